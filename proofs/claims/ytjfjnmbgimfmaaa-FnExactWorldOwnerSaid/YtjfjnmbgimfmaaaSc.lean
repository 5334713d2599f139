/- Contracts of the small functions on numbers. Conditions: those that each row states. -/
import Derived.Test.YtjfjnmbgimfmaaaType
namespace Go.Proofs.Ytjfjnmbgimfmaaa
open Go Go.Ro

section
variable {w : World} {C : World → Prop}

theorem l6In_c (hK : C w) {n lo hi : Int} : Ret Try.prog 109 #[.int .i64 n, .int .i64 lo, .int .i64 hi] w (fun r w' => r = .bool (decide (lo ≤ n ∧ n ≤ hi)) ∧ C w') := by
  refine enter1 (args := [.int .i64 n, .int .i64 lo, .int .i64 hi]) Try.func109 rfl rfl rfl rfl ?_
  refine sq <| rg <| ?_
  refine vl (asv (v := .bool _) rfl) <| nl <| thn <| sq <| rg <| vl (mvv (v := .int _ _) rfl) <| vl (mvv (v := .int _ _) rfl) <| vl (ge rfl rfl) <| vl (mvv (v := .bool _) rfl) <| ?_
  refine splP (t := 10) rfl (fun h => ?_) (fun h => ?_)
  · refine gy rfl <| vl (mvv (v := .int _ _) rfl) <| gy rfl <| vl (mvv (v := .int _ _) rfl) <| gy rfl <| vl (le rfl rfl) <| vl (pk rfl) <| vl (asv (v := .bool _) rfl) <| nl <| thn <| rt <| p1r (a := .bool _) rfl <| ?_
    exact ⟨by simp [h], hK⟩
  · refine gn rfl <| gn rfl <| gn rfl <| vl (pk rfl) <| vl (asv (v := .bool _) rfl) <| nl <| thn <| rt <| p1r (a := .bool _) rfl <| ?_
    exact ⟨by simp [h], hK⟩

theorem inRange_c (hK : C w) {n lo hi : Int} : Ret Try.prog 61 #[.int .i64 n, .int .i64 lo, .int .i64 hi] w (fun r w' => r = .bool (decide (lo ≤ n ∧ n ≤ hi)) ∧ C w') := by
  refine enter1 (args := [.int .i64 n, .int .i64 lo, .int .i64 hi]) Try.func61 rfl rfl rfl rfl ?_
  refine sq <| rg <| ?_
  refine vl (asv (v := .bool _) rfl) <| nl <| thn <| sq <| rg <| vl (mvv (v := .int _ _) rfl) <| vl (mvv (v := .int _ _) rfl) <| vl (le rfl rfl) <| vl (mvv (v := .bool _) rfl) <| ?_
  refine splP (t := 10) rfl (fun h => ?_) (fun h => ?_)
  · refine gy rfl <| vl (mvv (v := .int _ _) rfl) <| gy rfl <| vl (mvv (v := .int _ _) rfl) <| gy rfl <| vl (le rfl rfl) <| vl (pk rfl) <| vl (asv (v := .bool _) rfl) <| nl <| thn <| rt <| p1r (a := .bool _) rfl <| ?_
    exact ⟨by simp [h], hK⟩
  · refine gn rfl <| gn rfl <| gn rfl <| vl (pk rfl) <| vl (asv (v := .bool _) rfl) <| nl <| thn <| rt <| p1r (a := .bool _) rfl <| ?_
    exact ⟨by simp [h], hK⟩

theorem l1Point_c (hK : C w) {n : Int} : Ret Try.prog 83 #[.int .i64 n] w (fun r w' => r = .bool (decide (0 ≤ n ∧ n ≤ 63)) ∧ C w') := by
  refine enter1 (args := [.int .i64 n]) Try.func83 rfl rfl rfl rfl ?_
  refine sq <| rg <| ?_
  refine vl (asv (v := .bool _) rfl) <| nl <| thn <| sq <| rg <| vl (mvv (v := .int _ _) rfl) <| ?_
  refine cl Try.call109 rfl (l6In_c (C := C) hK) ?_
  rintro _ w ⟨rfl, hK⟩
  refine vl (asv (v := .bool _) rfl) <| nl <| thn <| rt <| p1r (a := .bool _) rfl <| ?_
  exact ⟨rfl, hK⟩

theorem posok_c (hK : C w) {n : Int} : Ret Try.prog 52 #[.int .i64 n] w (fun r w' => r = .bool (decide (0 ≤ n ∧ n ≤ 63)) ∧ C w') := by
  refine enter1 (args := [.int .i64 n]) Try.func52 rfl rfl rfl rfl ?_
  refine sq <| rg <| ?_
  refine vl (asv (v := .bool _) rfl) <| nl <| thn <| sq <| rg <| vl (mvv (v := .int _ _) rfl) <| vl (ge rfl rfl) <| vl (mvv (v := .bool _) rfl) <| ?_
  refine splP (t := 5) rfl (fun h => ?_) (fun h => ?_)
  · refine gy rfl <| vl (mvv (v := .int _ _) rfl) <| gy rfl <| vl (lt rfl rfl) <| vl (pk rfl) <| vl (asv (v := .bool _) rfl) <| nl <| thn <| rt <| p1r (a := .bool _) rfl <| ?_
    exact ⟨by simp [h]; omega, hK⟩
  · refine gn rfl <| gn rfl <| vl (pk rfl) <| vl (asv (v := .bool _) rfl) <| nl <| thn <| rt <| p1r (a := .bool _) rfl <| ?_
    exact ⟨by simp [h], hK⟩
end
end Go.Proofs.Ytjfjnmbgimfmaaa
