/- Contracts of the small functions on numbers. Conditions: those that each row states. -/
import Derived.Test.YtbkfnnifkdgbkaaType
namespace Go.Proofs.Ytbkfnnifkdgbkaa
open Go Go.Ro

section
variable {w : World} {C : World → Prop}

theorem l6In_c (hK : C w) {n lo hi : Int} : Ret Try.prog 37 #[.int .i64 n, .int .i64 lo, .int .i64 hi] w (fun r w' => r = .bool (decide (lo ≤ n ∧ n ≤ hi)) ∧ C w') := by
 refine enter1 (args := [.int .i64 n, .int .i64 lo, .int .i64 hi]) Try.func37 rfl rfl rfl rfl ?_
 refine sq <| rg <| ?_
 refine vl (aB rfl) <| nl <| thn <| sq <| rg <| vl (mI rfl) <| vl (mI rfl) <| vl (ge rfl rfl) <| vl (mB rfl) <| ?_
 refine splP (t := 10) rfl (fun h => ?_) (fun h => ?_)
 ·refine gy rfl <| vl (mI rfl) <| gy rfl <| vl (mI rfl) <| gy rfl <| vl (le rfl rfl) <| vl (pk rfl) <| vl (aB rfl) <| nl <| thn <| rt <| p1r (a := .bool _) rfl <| ?_
  exact ⟨by simp [h], hK⟩
 ·refine gn rfl <| gn rfl <| gn rfl <| vl (pk rfl) <| vl (aB rfl) <| nl <| thn <| rt <| p1r (a := .bool _) rfl <| ?_
  exact ⟨by simp [h], hK⟩

theorem inRange_c (hK : C w) {n lo hi : Int} : Ret Try.prog 39 #[.int .i64 n, .int .i64 lo, .int .i64 hi] w (fun r w' => r = .bool (decide (lo ≤ n ∧ n ≤ hi)) ∧ C w') := by
 refine enter1 (args := [.int .i64 n, .int .i64 lo, .int .i64 hi]) Try.func39 rfl rfl rfl rfl ?_
 refine sq <| rg <| ?_
 refine vl (aB rfl) <| nl <| thn <| sq <| rg <| vl (mI rfl) <| vl (mI rfl) <| vl (le rfl rfl) <| vl (mB rfl) <| ?_
 refine splP (t := 10) rfl (fun h => ?_) (fun h => ?_)
 ·refine gy rfl <| vl (mI rfl) <| gy rfl <| vl (mI rfl) <| gy rfl <| vl (le rfl rfl) <| vl (pk rfl) <| vl (aB rfl) <| nl <| thn <| rt <| p1r (a := .bool _) rfl <| ?_
  exact ⟨by simp [h], hK⟩
 ·refine gn rfl <| gn rfl <| gn rfl <| vl (pk rfl) <| vl (aB rfl) <| nl <| thn <| rt <| p1r (a := .bool _) rfl <| ?_
  exact ⟨by simp [h], hK⟩

theorem l1Point_c (hK : C w) {n : Int} : Ret Try.prog 41 #[.int .i64 n] w (fun r w' => r = .bool (decide (0 ≤ n ∧ n ≤ 63)) ∧ C w') := by
 refine enter1 (args := [.int .i64 n]) Try.func41 rfl rfl rfl rfl ?_
 refine sq <| rg <| ?_
 refine vl (aB rfl) <| nl <| thn <| sq <| rg <| vl (mI rfl) <| ?_
 refine cl Try.call37 rfl (l6In_c (C := C) hK) ?_
 rintro _ w ⟨rfl, hK⟩
 refine vl (aB rfl) <| nl <| thn <| rt <| p1r (a := .bool _) rfl <| ?_
 exact ⟨rfl, hK⟩

theorem posok_c (hK : C w) {n : Int} : Ret Try.prog 42 #[.int .i64 n] w (fun r w' => r = .bool (decide (0 ≤ n ∧ n ≤ 63)) ∧ C w') := by
 refine enter1 (args := [.int .i64 n]) Try.func42 rfl rfl rfl rfl ?_
 refine sq <| rg <| ?_
 refine vl (aB rfl) <| nl <| thn <| sq <| rg <| vl (mI rfl) <| vl (ge rfl rfl) <| vl (mB rfl) <| ?_
 refine splP (t := 5) rfl (fun h => ?_) (fun h => ?_)
 ·refine gy rfl <| vl (mI rfl) <| gy rfl <| vl (lt rfl rfl) <| vl (pk rfl) <| vl (aB rfl) <| nl <| thn <| rt <| p1r (a := .bool _) rfl <| ?_
  exact ⟨by simp [h]; omega, hK⟩
 ·refine gn rfl <| gn rfl <| vl (pk rfl) <| vl (aB rfl) <| nl <| thn <| rt <| p1r (a := .bool _) rfl <| ?_
  exact ⟨by simp [h], hK⟩
end
end Go.Proofs.Ytbkfnnifkdgbkaa
