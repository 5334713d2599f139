/- Contracts of the steps of a scan and of whole scans. Contracts of the functions that draw leases, keys and scans. Contracts of the functions that copy, compare and mark leases and scans. Conditions: those that each row states. -/
import Derived.Test.YthblmldlkipidaaGreatDoorSk
import Derived.Test.YthblmldlkipidaaGreatDoorCf
namespace Go.Proofs.YthblmldlkipidaaGreatDoor
open Go Go.Ro

section
variable {e w : World} {G : View} {L A : Own} {v u t t2 : Value} {xs ys ks ts us : List Int} {ls : List Ls} {n m : Int}

theorem sameScan_c (hK : K e w G L) (ht : IntS G t ts) (hu : IntS G t2 us) :
  Ret Tryz.prog 41 #[.agg #[.int .i64 n, t], .agg #[.int .i64 m, t2]] w (fun r w' => r = .bool (decide (n = m ∧ ts = us)) ∧ K e w' G L) := by
 refine enter1 (args := [.agg #[.int .i64 n, t], .agg #[.int .i64 m, t2]]) Tryz.func41 rfl rfl rfl rfl ?_
 refine sq <| rg <| ?_
 refine bx hK rfl rfl ?_
 intro b2 w hK
 refine bx hK rfl rfl ?_
 intro b3 w hK
 refine vl (aB rfl) <| nl <| thn <| sq <| rg <| vl (fa Tryz.underlying28 rfl Ty.z3 rfl) <| vl (ldO hK Ty.o3 1 rfl rfl rfl) <| vl (fa Tryz.underlying28 rfl Ty.z3 rfl) <| vl (ldO hK Ty.o3 0 rfl rfl rfl) <| vl (eq rfl rfl) <| vl (mB rfl) <| ?_
 refine splP (t := 10) rfl (fun h => ?_) (fun h => ?_)
 ·refine gy rfl <| vl (fa Tryz.underlying28 rfl Ty.z26 rfl) <| gy rfl <| vl (ldO hK Ty.o26 1 rfl rfl rfl) <| gy rfl <| vl (fa Tryz.underlying28 rfl Ty.z26 rfl) <| gy rfl <| vl (ldO hK Ty.o26 0 rfl rfl rfl) <| gy rfl <| ?_
  refine cl Tryz.call25 rfl (sameInts_c hK (by assumption) (by assumption)) ?_
  rintro _ w ⟨rfl, hK⟩
  refine vl (pk rfl) <| vl (aB rfl) <| nl <| thn <| rt <| p1r (a := .bool _) rfl <| ?_
  exact ⟨by simp [h], hK.drop1.drop1⟩
 ·refine gn rfl <| gn rfl <| gn rfl <| gn rfl <| gn rfl <| vl (pk rfl) <| vl (aB rfl) <| nl <| thn <| rt <| p1r (a := .bool _) rfl <| ?_
  exact ⟨by simp [h], hK.drop1.drop1⟩
end
end Go.Proofs.YthblmldlkipidaaGreatDoor
namespace Go.Proofs.YthblmldlkipidaaGreatDoor
open Go Go.Ro

section
variable {e w : World} {G : View} {L A : Own} {cva v u t : Value} {code xs ys ks ts : List Int} {ls : List Ls} {n p : Int} {rb : Nat}

theorem pickJ_c (j : Nat) {L : Own} (hK : K e w G L) (hj : L[j]? = some (rb, row [cva, .int .i64 p] 98)) (hcode : BytS G cva code) (hlen : code.length ≤ 2000) (h0 : 0 ≤ p) (h1 : p ≤ 1000000000) (hn : 1 ≤ n) :
  Ret Tryz.prog 32 #[.pointer (some ⟨rb, 0, none⟩), .int .i64 n] w (fun r w' => (∃ k, r = .int .i64 k ∧ 0 ≤ k ∧ k < n) ∧ K e w' G (L.set j (rb, row [cva, .int .i64 (p + 1)] 98))) :=
 (pickN_c (hK.nth hj) hcode hlen h0 h1 hn).mono fun _ _ ⟨h, hK⟩ => ⟨h, hK.perm (set_perm hj)⟩
theorem l91PointJ_c (j : Nat) {L : Own} (hK : K e w G L) (hj : L[j]? = some (rb, row [cva, .int .i64 p] 98)) (hcode : BytS G cva code) (hlen : code.length ≤ 2000) (h0 : 0 ≤ p) (h1 : p ≤ 900000000) :
  Ret Tryz.prog 74 #[.pointer (some ⟨rb, 0, none⟩)] w (fun r w' => ∃ k p', r = .int .i64 k ∧ -1 ≤ k ∧ k ≤ 64 ∧ p ≤ p' ∧ p' ≤ p + 2 ∧ K e w' G (L.set j (rb, row [cva, .int .i64 p'] 98))) :=
 (l91Point_c (hK.nth hj) hcode hlen h0 h1).mono fun _ _ ⟨k, p', h1, h2, h3, h4, h5, hK⟩ => ⟨k, p', h1, h2, h3, h4, h5, hK.perm (set_perm hj)⟩
end
end Go.Proofs.YthblmldlkipidaaGreatDoor
namespace Go.Proofs.YthblmldlkipidaaGreatDoor
open Go Go.Ro

section
variable {e w : World} {G : View} {L A : Own} {v u t t2 : Value} {xs ys ks ts us : List Int} {ls ms : List Ls} {n m k : Int}

end
end Go.Proofs.YthblmldlkipidaaGreatDoor