/- Contracts of the functions that hold worlds against each other. Conditions: those that each row states. -/
import Derived.Test.YtbkfnnifkdgbkaaWn
import Derived.Test.YtbkfnnifkdgbkaaSl
namespace Go.Proofs.Ytbkfnnifkdgbkaa
open Go Go.Ro

section
variable {e w : World} {G : View} {L A : Own} {v u : Value} {xs ys : List Int} {ls ms : List Ls} {rs qs : List Rn} {zs ts : List It} {W W' : Wv} {wd wd' : Wd} {a b k id other : Int} {i j bk o : Nat}

end
end Go.Proofs.Ytbkfnnifkdgbkaa