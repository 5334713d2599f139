/- Contracts of the program's steps of a ring. Conditions: those that each row states. -/
import Derived.Test.YtjfjnmbgimfmaaaRs3
namespace Go.Proofs.Ytjfjnmbgimfmaaa
open Go Go.Ro

section
variable {e w : World} {G : View} {L : Own} {v u : Value} {xs ys ks : List Int} {ls : List Ls} {rs : List Rn} {a b k id other : Int} {i j : Nat}

end
end Go.Proofs.Ytjfjnmbgimfmaaa