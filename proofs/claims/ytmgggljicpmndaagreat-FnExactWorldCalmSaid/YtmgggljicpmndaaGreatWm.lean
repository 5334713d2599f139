/- Contracts of the functions on worlds: who owns a key. Contracts of the functions that make new rings and worlds. Contracts of the functions that hold worlds against each other. Conditions: those that each row states. -/
import Derived.Test.YtmgggljicpmndaaGreatWv
import Derived.Test.YtmgggljicpmndaaGreatSl
namespace Go.Proofs.YtmgggljicpmndaaGreat
open Go Go.Ro Tryz
section
variable {e w : World} {G : View} {L A : Own} {v u : Value} {xs ys : List Int} {ls : List Ls} {rs : List Rn} {zs : List It} {W : Wv} {wd : Wd} {a b k id other : Int} {i j bk o : Nat}
theorem WdS.one (hW : WdS G lc W wd rs) : (wc W).all Ro.one = true := allc rfl (allc hW.ring.sl.1.one (allc hW.leases.1.one (allc hW.items.1.one (allc rfl (allc hW.told.1.one (allc hW.since.1.one rfl))))))
end
open Go Go.Ro Tryz
section
variable {e w : World} {G : View} {L A : Own} {v u : Value} {xs ys : List Int} {ls : List Ls} {rs : List Rn} {zs : List It} {W : Wv} {wd : Wd} {a b k id other : Int} {i j bk o : Nat}
end
open Go Go.Ro Tryz
section
variable {e w : World} {G : View} {L A : Own} {v u : Value} {xs ys : List Int} {ls ms : List Ls} {rs qs : List Rn} {zs ts : List It} {W W' : Wv} {wd wd' : Wd} {a b k id other : Int} {i j bk o : Nat}
end
end Go.Proofs.YtmgggljicpmndaaGreat