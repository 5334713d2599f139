/- Contracts of the library's functions on slices of numbers. Conditions: those that each row states. -/
import Derived.Test.YtbkfnnifkdgbkaaIn
import Derived.Test.YtbkfnnifkdgbkaaSs
import Derived.Test.YtbkfnnifkdgbkaaPsM
namespace Go.Proofs.Ytbkfnnifkdgbkaa
open Go Go.Ro

section
variable {e w : World} {G : View} {L : Own} {v u : Value} {xs ys : List Int}

end
end Go.Proofs.Ytbkfnnifkdgbkaa