/- Contracts of the functions that draw leases, keys and scans. Conditions: those that each row states. -/
import Derived.Test.YtlpefeeadeocgaaSl
import Derived.Test.YtlpefeeadeocgaaDr
namespace Go.Proofs.Ytlpefeeadeocgaa
open Go Go.Ro

section
variable {e w : World} {G : View} {L A : Own} {cva v u t : Value} {code xs ys ks ts : List Int} {ls : List Ls} {n p : Int} {rb : Nat}

theorem pickJ_c (j : Nat) {L : Own} (hK : K e w G L) (hj : L[j]? = some (rb, row [cva, .int .i64 p] 55)) (hcode : BytS G cva code) (hlen : code.length ≤ 2000) (h0 : 0 ≤ p) (h1 : p ≤ 1000000000) (hn : 1 ≤ n) :
  Ret Try.prog 25 #[.pointer (some ⟨rb, 0, none⟩), .int .i64 n] w (fun r w' => (∃ k, r = .int .i64 k ∧ 0 ≤ k ∧ k < n) ∧ K e w' G (L.set j (rb, row [cva, .int .i64 (p + 1)] 55))) :=
 (pickN_c (hK.nth hj) hcode hlen h0 h1 hn).mono fun _ _ ⟨h, hK⟩ => ⟨h, hK.perm (set_perm hj)⟩
end
end Go.Proofs.Ytlpefeeadeocgaa