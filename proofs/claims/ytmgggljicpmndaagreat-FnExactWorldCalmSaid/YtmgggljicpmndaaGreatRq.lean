/- Contracts of the specification's steps of a ring: failing, joining. Contracts of the program's steps of a ring. Contracts of the program's steps of a ring: leaving, following, telling. Conditions: those that each row states. -/
import Derived.Test.YtmgggljicpmndaaGreatRs2
import Derived.Test.YtmgggljicpmndaaGreatWdM
namespace Go.Proofs.YtmgggljicpmndaaGreat
open Go Go.Ro Tryz
section
variable {e w : World} {G : View} {L : Own} {v u : Value} {xs ys ks : List Int} {ls : List Ls} {rs : List Rn} {a b k id other : Int} {i j : Nat}
end
open Go Go.Ro Tryz
section
variable {e w : World} {G : View} {L : Own} {v u : Value} {xs ys ks : List Int} {ls : List Ls} {rs : List Rn} {a b k id other : Int} {i j : Nat}
theorem cloneN_c (hK : K e w G L) (hv : RngS G v rs) (hle : rs.length ≤ 100000) :
  Ret prog 97 #[v] w (fun r w' => ∃ A, OS 3 79 r rs.length (rs.flatMap rc) A ∧ K e w' G (A ++ L)) := by
 have hs := hv.sl
 refine enter1 (args := [v]) func97 rfl rfl rfl rfl ?_
 refine sq <| rg <| ?_
 refine vl asg <| nl <| thn <| sq <| sq <| rg <| vl mv <| vl (eqSn underlying31 rfl hs.len rfl) <| nl <| thn <| ?_
 refine cdB rfl (fun h => ?_) fun h => ?_
 ·have hx : rs = [] := List.eq_nil_of_length_eq_zero (hs.1.nil_len h)
  subst hx
  refine sq <| rg <| ?_
  refine vl asg <| nl <| thn <| rt <| thr <| p1r (a := _) rfl <| ?_
  exact ⟨[], OS.nil _ _, hK⟩
 ·refine sk <| thn <| sq <| rg <| ?_
  refine bs0 hK underlying31 Ty.i79 ?_
  intro b5 w hK
  refine vl mv <| ?_
  refine apR (xs := []) (ys := rs) hK underlying31 Ty.i79 rfl rfl rfl OS.none rfl hs hv.one (by simp; omega) fun v' A' w ho hK => ?_
  refine vl asg <| nl <| thn <| rt <| p1r (a := _) rfl <| ?_
  exact ⟨A', ho, hK⟩
end
open Go Go.Ro Tryz
section
variable {e w : World} {G : View} {L A : Own} {v u : Value} {xs ys ks : List Int} {ls : List Ls} {rs : List Rn} {a b k id other : Int} {i j sb : Nat}
theorem nodeAt_in (hK : K e w G L) (hv : RngS G v rs) (hn : NdA G rs id i) : Ret prog 91 #[v, .int .i64 id] w (fun r w' => r = .pointer (some (elA v (i * 3))) ∧ K e w' G L) :=
 (nodeAt_c hK hv).mono fun _ _ ⟨h1, h2⟩ => ⟨h1.trans (congrArg Value.pointer (nAt_of hn)), h2⟩
theorem nodeAt_no (hK : K e w G L) (hv : RngS G v rs) (hn : id ∉ ids (rgl rs)) : Ret prog 91 #[v, .int .i64 id] w (fun r w' => r = .pointer none ∧ K e w' G L) :=
 (nodeAt_c hK hv).mono fun _ _ ⟨h1, h2⟩ => ⟨h1.trans (congrArg Value.pointer (nAt_no hn)), h2⟩
end
end Go.Proofs.YtmgggljicpmndaaGreat
