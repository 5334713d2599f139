/- Contracts of the program's steps of a ring. Contracts of the program's steps of a ring: leaving, following, telling. Conditions: those that each row states. -/
import Derived.Test.YtjfjnmbgimfmaaaGreatRs3
import Derived.Test.YtjfjnmbgimfmaaaGreatWdN
namespace Go.Proofs.YtjfjnmbgimfmaaaGreat
open Go Go.Ro

section
variable {e w : World} {G : View} {L : Own} {v u : Value} {xs ys ks : List Int} {ls : List Ls} {rs : List Rn} {a b k id other : Int} {i j : Nat}

end
end Go.Proofs.YtjfjnmbgimfmaaaGreat
namespace Go.Proofs.YtjfjnmbgimfmaaaGreat
open Go Go.Ro

section
variable {e w : World} {G : View} {L A : Own} {v u : Value} {xs ys ks : List Int} {ls : List Ls} {rs : List Rn} {a b k id other : Int} {i j sb : Nat}

theorem nodeAt_in (hK : K e w G L) (hv : RngS G v rs) (hn : NdA G rs id i) : Ret Tryz.prog 68 #[v, .int .i64 id] w (fun r w' => r = .pointer (some (elA v (i * 3))) ∧ K e w' G L) :=
  (nodeAt_c hK hv).mono fun _ _ ⟨h1, h2⟩ => ⟨h1.trans (congrArg Value.pointer (nAt_of hn)), h2⟩
theorem nodeAt_no (hK : K e w G L) (hv : RngS G v rs) (hn : id ∉ ids (rgl rs)) : Ret Tryz.prog 68 #[v, .int .i64 id] w (fun r w' => r = .pointer none ∧ K e w' G L) :=
  (nodeAt_c hK hv).mono fun _ _ ⟨h1, h2⟩ => ⟨h1.trans (congrArg Value.pointer (nAt_no hn)), h2⟩

end
end Go.Proofs.YtjfjnmbgimfmaaaGreat