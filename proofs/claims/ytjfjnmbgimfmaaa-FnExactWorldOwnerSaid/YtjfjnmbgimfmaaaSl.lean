/- Contracts of the steps of a scan and of whole scans. Conditions: those that each row states. -/
import Derived.Test.YtjfjnmbgimfmaaaSk
namespace Go.Proofs.Ytjfjnmbgimfmaaa
open Go Go.Ro

section
variable {e w : World} {G : View} {L A : Own} {v u t t2 : Value} {xs ys ks ts us : List Int} {ls : List Ls} {n m : Int}

theorem sameScan_c (hK : K e w G L) (ht : IntS G t ts) (hu : IntS G t2 us) :
    Ret Try.prog 48 #[.agg #[.int .i64 n, t], .agg #[.int .i64 m, t2]] w (fun r w' => r = .bool (decide (n = m ∧ ts = us)) ∧ K e w' G L) := by
  refine enter1 (args := [.agg #[.int .i64 n, t], .agg #[.int .i64 m, t2]]) Try.func48 rfl rfl rfl rfl ?_
  refine sq <| rg <| ?_
  refine bx hK rfl rfl ?_
  intro b2 w hK
  refine bx hK rfl rfl ?_
  intro b3 w hK
  refine vl (asv (v := .bool _) rfl) <| nl <| thn <| sq <| rg <| vl (fa Try.underlying27 rfl Ty.z3 rfl) <| vl (ldO hK Ty.o3 1 rfl rfl rfl) <| vl (fa Try.underlying27 rfl Ty.z3 rfl) <| vl (ldO hK Ty.o3 0 rfl rfl rfl) <| vl (eq rfl rfl) <| vl (mvv (v := .bool _) rfl) <| ?_
  refine splP (t := 10) rfl (fun h => ?_) (fun h => ?_)
  · refine gy rfl <| vl (fa Try.underlying27 rfl Ty.z22 rfl) <| gy rfl <| vl (ldO hK Ty.o22 1 rfl rfl rfl) <| gy rfl <| vl (fa Try.underlying27 rfl Ty.z22 rfl) <| gy rfl <| vl (ldO hK Ty.o22 0 rfl rfl rfl) <| gy rfl <| ?_
    refine cl Try.call49 rfl (sameInts_c hK (by assumption) (by assumption)) ?_
    rintro _ w ⟨rfl, hK⟩
    refine vl (pk rfl) <| vl (asv (v := .bool _) rfl) <| nl <| thn <| rt <| p1r (a := .bool _) rfl <| ?_
    exact ⟨by simp [h], hK.drop1.drop1⟩
  · refine gn rfl <| gn rfl <| gn rfl <| gn rfl <| gn rfl <| vl (pk rfl) <| vl (asv (v := .bool _) rfl) <| nl <| thn <| rt <| p1r (a := .bool _) rfl <| ?_
    exact ⟨by simp [h], hK.drop1.drop1⟩
theorem eqScan_c (hK : K e w G L) (ht : IntS G t ts) (hu : IntS G t2 us) :
    Ret Try.prog 33 #[.agg #[.int .i64 n, t], .agg #[.int .i64 m, t2]] w (fun r w' => r = .bool (decide (n = m ∧ ts = us)) ∧ K e w' G L) := by
  refine enter1 (args := [.agg #[.int .i64 n, t], .agg #[.int .i64 m, t2]]) Try.func33 rfl rfl rfl rfl ?_
  refine sq <| rg <| ?_
  refine bx hK rfl rfl ?_
  intro b2 w hK
  refine bx hK rfl rfl ?_
  intro b3 w hK
  refine vl (asv (v := .bool _) rfl) <| nl <| thn <| sq <| sq <| rg <| vl (fa Try.underlying27 rfl Ty.z3 rfl) <| vl (ldO hK Ty.o3 1 rfl rfl rfl) <| vl (fa Try.underlying27 rfl Ty.z3 rfl) <| vl (ldO hK Ty.o3 0 rfl rfl rfl) <| vl (ne rfl rfl) <| nl <| thn <| ?_
  refine cdP rfl (fun h => ?_) (fun h => ?_)
  · refine sq <| rg <| ?_
    refine vl (asv (v := .bool _) rfl) <| nl <| thn <| rt <| thr <| p1r (a := .bool _) rfl <| ?_
    exact ⟨by simp [h], hK.drop1.drop1⟩
  · refine sk <| thn <| sq <| sq <| rg <| ?_
    refine vl (fa Try.underlying27 rfl Ty.z22 rfl) <| vl (ldO hK Ty.o22 1 rfl rfl rfl) <| vl (fa Try.underlying27 rfl Ty.z22 rfl) <| vl (ldO hK Ty.o22 0 rfl rfl rfl) <| ?_
    refine cl Try.call11 rfl (eqIntS_c hK (by assumption) (by assumption)) ?_
    rintro _ w ⟨rfl, hK⟩
    refine vl (nt rfl) <| nl <| thn <| ?_
    refine cdP rfl (fun h2 => ?_) (fun h2 => ?_)
    · refine sq <| rg <| ?_
      refine vl (asv (v := .bool _) rfl) <| nl <| thn <| rt <| thr <| p1r (a := .bool _) rfl <| ?_
      exact ⟨by simp [h2], hK.drop1.drop1⟩
    · refine sk <| thn <| sq <| rg <| ?_
      refine vl (asv (v := .bool _) rfl) <| nl <| thn <| rt <| p1r (a := .bool _) rfl <| ?_
      exact ⟨by simp at h h2; simp [h, h2], hK.drop1.drop1⟩
end
end Go.Proofs.Ytjfjnmbgimfmaaa
