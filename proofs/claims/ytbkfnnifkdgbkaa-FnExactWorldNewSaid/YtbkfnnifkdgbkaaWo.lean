/- Contracts of the specification's functions on rings: what is valid and what is safe. Contracts of the program's functions on rings: what is valid and what is safe. Contracts of the specification's steps of a ring. Contracts of the specification's steps of a ring: leaving, following, telling. Contracts of the specification's steps of a ring: failing, joining. Contracts of the program's steps of a ring. Contracts of the program's steps of a ring: leaving, following, telling. Contracts of the functions on worlds: what is valid, who owns a key. Contracts of the functions on worlds: who owns a key. Conditions: those that each row states. -/
import Derived.Test.YtbkfnnifkdgbkaaSl
import Derived.Test.YtbkfnnifkdgbkaaRgS
import Derived.Test.YtbkfnnifkdgbkaaRgU
import Derived.Test.YtbkfnnifkdgbkaaWdM
namespace Go.Proofs.Ytbkfnnifkdgbkaa
open Go Go.Ro

section
variable {e w : World} {G : View} {L : Own} {v u : Value} {xs ys ks : List Int} {ls : List Ls} {rs : List Rn} {a b k : Int}

end
end Go.Proofs.Ytbkfnnifkdgbkaa
namespace Go.Proofs.Ytbkfnnifkdgbkaa
open Go Go.Ro

section
variable {e w : World} {G : View} {L : Own} {v u : Value} {xs ys ks : List Int} {ls : List Ls} {rs : List Rn} {a b k : Int}

end
end Go.Proofs.Ytbkfnnifkdgbkaa
namespace Go.Proofs.Ytbkfnnifkdgbkaa
open Go Go.Ro

section
variable {e w : World} {G : View} {L : Own} {v u : Value} {xs ys ks : List Int} {ls : List Ls} {rs : List Rn} {a b k : Int}

end
end Go.Proofs.Ytbkfnnifkdgbkaa
namespace Go.Proofs.Ytbkfnnifkdgbkaa
open Go Go.Ro

section
variable {e w : World} {G : View} {L : Own} {v u : Value} {xs ys ks : List Int} {ls : List Ls} {rs : List Rn} {a b k id other : Int} {i j : Nat}

end
end Go.Proofs.Ytbkfnnifkdgbkaa
namespace Go.Proofs.Ytbkfnnifkdgbkaa
open Go Go.Ro

section
variable {e w : World} {G : View} {L : Own} {v u : Value} {xs ys ks : List Int} {ls : List Ls} {rs : List Rn} {a b k id other : Int} {i j : Nat}

end
end Go.Proofs.Ytbkfnnifkdgbkaa
namespace Go.Proofs.Ytbkfnnifkdgbkaa
open Go Go.Ro

section
variable {e w : World} {G : View} {L : Own} {v u : Value} {xs ys ks : List Int} {ls : List Ls} {rs : List Rn} {a b k id other : Int} {i j : Nat}

end
end Go.Proofs.Ytbkfnnifkdgbkaa
namespace Go.Proofs.Ytbkfnnifkdgbkaa
open Go Go.Ro

section
variable {e w : World} {G : View} {L A : Own} {v u : Value} {xs ys ks : List Int} {ls : List Ls} {rs : List Rn} {a b k id other : Int} {i j sb : Nat}

end
end Go.Proofs.Ytbkfnnifkdgbkaa
namespace Go.Proofs.Ytbkfnnifkdgbkaa
open Go Go.Ro

section
variable {e w : World} {G : View} {L A : Own} {v u : Value} {xs ys : List Int} {ls : List Ls} {rs : List Rn} {zs : List It} {W : Wv} {wd : Wd} {a b k id other : Int} {i j : Nat}

end
end Go.Proofs.Ytbkfnnifkdgbkaa
namespace Go.Proofs.Ytbkfnnifkdgbkaa
open Go Go.Ro

section
variable {e w : World} {G : View} {L A : Own} {v u : Value} {xs ys : List Int} {ls : List Ls} {rs : List Rn} {zs : List It} {W : Wv} {wd : Wd} {a b k id other : Int} {i j bk o : Nat}

theorem WdS.one (hW : WdS G lc W wd rs) : (wc W).all Ro.one = true := allc rfl (allc hW.ring.sl.1.one (allc hW.leases.1.one (allc hW.items.1.one (allc rfl (allc hW.told.1.one (allc hW.since.1.one rfl))))))

end
end Go.Proofs.Ytbkfnnifkdgbkaa