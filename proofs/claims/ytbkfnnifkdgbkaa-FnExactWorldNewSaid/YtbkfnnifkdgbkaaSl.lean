/- Contracts of the functions on scans. Contracts of the steps of a scan and of whole scans. Conditions: those that each row states. -/
import Derived.Test.YtbkfnnifkdgbkaaSn
namespace Go.Proofs.Ytbkfnnifkdgbkaa
open Go Go.Ro

section
variable {e w : World} {G : View} {L A : Own} {v u t : Value} {xs ys ks ts : List Int} {ls : List Ls} {n : Int}

theorem l41New_c (hK : K e w G L) : Ret Try.prog 14 #[] w (fun r w' => ∃ t' A, r = .agg #[.int .i64 0, t'] ∧ OS 1 3 t' 0 (ints []) A ∧ K e w' G (A ++ L)) := by
 refine enterG1 (args := []) Try.func14 rfl rfl rfl rfl ?_
 refine sq <| rg <| ?_
 refine al hK Ty.i27 rfl ?_
 intro b0 w hK
 refine nl <| thn <| sq <| rg <| ?_
 refine bs0 hK Try.underlying22 Ty.i3 ?_
 intro b1 w hK
 refine vl (bd [(1, _)] Ty.p27 Ty.i27 rfl ⟨⟨rfl, rfl⟩, trivial⟩ rfl) <| ?_
 refine soS hK Ty.i27 1 rfl rfl rfl rfl rfl rfl ?_
 intro w hK
 refine nl <| thn <| rt <| pg1r (rvS hK Ty.a27 Ty.s27 1 rfl rfl rfl) <| ?_
 exact ⟨_, [_], rfl, OS.none, hK.perm (List.Perm.swap _ _ _) |>.drop1⟩

end
end Go.Proofs.Ytbkfnnifkdgbkaa
namespace Go.Proofs.Ytbkfnnifkdgbkaa
open Go Go.Ro

section
variable {e w : World} {G : View} {L A : Own} {v u t t2 : Value} {xs ys ks ts us : List Int} {ls : List Ls} {n m : Int}

theorem eqScan_c (hK : K e w G L) (ht : IntS G t ts) (hu : IntS G t2 us) :
  Ret Try.prog 20 #[.agg #[.int .i64 n, t], .agg #[.int .i64 m, t2]] w (fun r w' => r = .bool (decide (n = m ∧ ts = us)) ∧ K e w' G L) := by
 refine enter1 (args := [.agg #[.int .i64 n, t], .agg #[.int .i64 m, t2]]) Try.func20 rfl rfl rfl rfl ?_
 refine sq <| rg <| ?_
 refine bx hK rfl rfl ?_
 intro b2 w hK
 refine bx hK rfl rfl ?_
 intro b3 w hK
 refine vl (aB rfl) <| nl <| thn <| sq <| sq <| rg <| vl (fa Try.underlying27 rfl Ty.z3 rfl) <| vl (ldO hK Ty.o3 1 rfl rfl rfl) <| vl (fa Try.underlying27 rfl Ty.z3 rfl) <| vl (ldO hK Ty.o3 0 rfl rfl rfl) <| vl (ne rfl rfl) <| nl <| thn <| ?_
 refine cdP rfl (fun h => ?_) (fun h => ?_)
 ·refine sq <| rg <| ?_
  refine vl (aB rfl) <| nl <| thn <| rt <| thr <| p1r (a := .bool _) rfl <| ?_
  exact ⟨by simp [h], hK.drop1.drop1⟩
 ·refine sk <| thn <| sq <| sq <| rg <| ?_
  refine vl (fa Try.underlying27 rfl Ty.z22 rfl) <| vl (ldO hK Ty.o22 1 rfl rfl rfl) <| vl (fa Try.underlying27 rfl Ty.z22 rfl) <| vl (ldO hK Ty.o22 0 rfl rfl rfl) <| ?_
  refine cl Try.call8 rfl (eqIntS_c hK (by assumption) (by assumption)) ?_
  rintro _ w ⟨rfl, hK⟩
  refine vl (nt rfl) <| nl <| thn <| ?_
  refine cdP rfl (fun h2 => ?_) (fun h2 => ?_)
  ·refine sq <| rg <| ?_
   refine vl (aB rfl) <| nl <| thn <| rt <| thr <| p1r (a := .bool _) rfl <| ?_
   exact ⟨by simp [h2], hK.drop1.drop1⟩
  ·refine sk <| thn <| sq <| rg <| ?_
   refine vl (aB rfl) <| nl <| thn <| rt <| p1r (a := .bool _) rfl <| ?_
   exact ⟨by simp at h h2; simp [h, h2], hK.drop1.drop1⟩
end
end Go.Proofs.Ytbkfnnifkdgbkaa
