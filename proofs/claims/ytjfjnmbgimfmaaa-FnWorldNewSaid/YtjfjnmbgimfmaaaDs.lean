/- Contracts of the functions that draw leases, keys and scans. Conditions: those that each row states. -/
import Derived.Test.YtjfjnmbgimfmaaaSl
import Derived.Test.YtjfjnmbgimfmaaaDr
namespace Go.Proofs.Ytjfjnmbgimfmaaa
open Go Go.Ro

theorem q64 {n : Int} (h : 1 ≤ n) (h2 : n ≤ 12) : 1 ≤ 64 / n ∧ 64 / n ≤ 64 := by
  have : n = 1 ∨ n = 2 ∨ n = 3 ∨ n = 4 ∨ n = 5 ∨ n = 6 ∨ n = 7 ∨ n = 8 ∨ n = 9 ∨ n = 10 ∨ n = 11 ∨ n = 12 := by omega
  rcases this with rfl | rfl | rfl | rfl | rfl | rfl | rfl | rfl | rfl | rfl | rfl | rfl <;> decide

section
variable {e w : World} {G : View} {L A : Own} {cva v u t : Value} {code xs ys ks ts : List Int} {ls : List Ls} {n p : Int} {rb : Nat}

theorem pickJ_c (j : Nat) {L : Own} (hK : K e w G L) (hj : L[j]? = some (rb, row [cva, .int .i64 p] 104)) (hcode : BytS G cva code) (hlen : code.length ≤ 2000) (h0 : 0 ≤ p) (h1 : p ≤ 1000000000) (hn : 1 ≤ n) :
    Ret Try.prog 92 #[.pointer (some ⟨rb, 0, none⟩), .int .i64 n] w (fun r w' => (∃ k, r = .int .i64 k ∧ 0 ≤ k ∧ k < n) ∧ K e w' G (L.set j (rb, row [cva, .int .i64 (p + 1)] 104))) :=
  (pickN_c (hK.nth hj) hcode hlen h0 h1 hn).mono fun _ _ ⟨h, hK⟩ => ⟨h, hK.perm (set_perm hj)⟩
theorem l91PointJ_c (j : Nat) {L : Own} (hK : K e w G L) (hj : L[j]? = some (rb, row [cva, .int .i64 p] 104)) (hcode : BytS G cva code) (hlen : code.length ≤ 2000) (h0 : 0 ≤ p) (h1 : p ≤ 900000000) :
    Ret Try.prog 93 #[.pointer (some ⟨rb, 0, none⟩)] w (fun r w' => ∃ k p', r = .int .i64 k ∧ -1 ≤ k ∧ k ≤ 64 ∧ p ≤ p' ∧ p' ≤ p + 2 ∧ K e w' G (L.set j (rb, row [cva, .int .i64 p'] 104))) :=
  (l91Point_c (hK.nth hj) hcode hlen h0 h1).mono fun _ _ ⟨k, p', h1, h2, h3, h4, h5, hK⟩ => ⟨k, p', h1, h2, h3, h4, h5, hK.perm (set_perm hj)⟩
end
end Go.Proofs.Ytjfjnmbgimfmaaa