/- Closed facts on the types of the program. Contracts of the small functions on numbers. Contracts of the functions that copy, compare and mark slices of numbers. Conditions: those that each row states. -/
import Derived.Test.YtmgggljicpmndaaGreatBd
import Derived.Test.YtmgggljicpmndaaGreatProg
import Derived.Test.YtmgggljicpmndaaGreatSs
namespace Go.Proofs.YtmgggljicpmndaaGreat
open Go Go.Ro
theorem Ty.mixed : Tryz.prog.follows .mixedOrders = true := by kernel_rfl
theorem Ty.o2 : OneC Tryz.prog 2 := ⟨_, Tryz.underlying2, rfl⟩
theorem Ty.s2 : (Tryz.prog.info? 2).map (·.size) = some 1 := by kernel_rfl
theorem Ty.i2 : Inf Tryz.prog 2 (.int .i64 0) 1 8 := by unfold Inf; kernel_rfl
theorem Ty.o3 : OneC Tryz.prog 3 := ⟨_, Tryz.underlying3, rfl⟩
theorem Ty.s3 : (Tryz.prog.info? 3).map (·.size) = some 1 := by kernel_rfl
theorem Ty.z3 : (Tryz.prog.info? 3).map (fun i => i.size == 0) = some false := by kernel_rfl
theorem Ty.i3 : Inf Tryz.prog 3 (.int .i64 0) 1 8 := by unfold Inf; kernel_rfl
theorem Ty.o4 : OneC Tryz.prog 4 := ⟨_, Tryz.underlying4, rfl⟩
theorem Ty.s4 : (Tryz.prog.info? 4).map (·.size) = some 1 := by kernel_rfl
theorem Ty.i4 : Inf Tryz.prog 4 (.bool false) 1 1 := by unfold Inf; kernel_rfl
theorem Ty.o5 : OneC Tryz.prog 5 := ⟨_, Tryz.underlying5, rfl⟩
theorem Ty.s5 : (Tryz.prog.info? 5).map (·.size) = some 1 := by kernel_rfl
theorem Ty.o22 : OneC Tryz.prog 22 := ⟨_, Tryz.underlying22, rfl⟩
theorem Ty.z22 : (Tryz.prog.info? 22).map (fun i => i.size == 0) = some false := by kernel_rfl
theorem Ty.o23 : OneC Tryz.prog 23 := ⟨_, Tryz.underlying23, rfl⟩
theorem Ty.z23 : (Tryz.prog.info? 23).map (fun i => i.size == 0) = some false := by kernel_rfl
theorem Ty.o24 : OneC Tryz.prog 24 := ⟨_, Tryz.underlying24, rfl⟩
theorem Ty.z24 : (Tryz.prog.info? 24).map (fun i => i.size == 0) = some false := by kernel_rfl
theorem Ty.o25 : OneC Tryz.prog 25 := ⟨_, Tryz.underlying25, rfl⟩
theorem Ty.z25 : (Tryz.prog.info? 25).map (fun i => i.size == 0) = some false := by kernel_rfl
theorem Ty.i25 : Inf Tryz.prog 25 (.slice none 0 0) 1 24 := by unfold Inf; kernel_rfl
theorem Ty.a27 : AggC Tryz.prog 27 := ⟨_, Tryz.underlying27, rfl⟩
theorem Ty.s27 : (Tryz.prog.info? 27).map (·.size) = some 2 := by kernel_rfl
theorem Ty.z27 : (Tryz.prog.info? 27).map (fun i => i.size == 0) = some false := by kernel_rfl
theorem Ty.a29 : AggC Tryz.prog 29 := ⟨_, Tryz.underlying29, rfl⟩
theorem Ty.s29 : (Tryz.prog.info? 29).map (·.size) = some 7 := by kernel_rfl
theorem Ty.o31 : OneC Tryz.prog 31 := ⟨_, Tryz.underlying31, rfl⟩
theorem Ty.z31 : (Tryz.prog.info? 31).map (fun i => i.size == 0) = some false := by kernel_rfl
theorem Ty.i31 : Inf Tryz.prog 31 (.slice none 0 0) 1 24 := by unfold Inf; kernel_rfl
theorem Ty.o32 : OneC Tryz.prog 32 := ⟨_, Tryz.underlying32, rfl⟩
theorem Ty.z32 : (Tryz.prog.info? 32).map (fun i => i.size == 0) = some false := by kernel_rfl
theorem Ty.i32 : Inf Tryz.prog 32 (.slice none 0 0) 1 24 := by unfold Inf; kernel_rfl
theorem Ty.o33 : OneC Tryz.prog 33 := ⟨_, Tryz.underlying33, rfl⟩
theorem Ty.z33 : (Tryz.prog.info? 33).map (fun i => i.size == 0) = some false := by kernel_rfl
theorem Ty.i33 : Inf Tryz.prog 33 (.slice none 0 0) 1 24 := by unfold Inf; kernel_rfl
theorem Ty.a34 : AggC Tryz.prog 34 := ⟨_, Tryz.underlying34, rfl⟩
theorem Ty.s34 : (Tryz.prog.info? 34).map (·.size) = some 2 := by kernel_rfl
theorem Ty.p34 : plc Tryz.prog 34 = some [(0, 1), (1, 1)] := by kernel_rfl
theorem Ty.z34 : (Tryz.prog.info? 34).map (fun i => i.size == 0) = some false := by kernel_rfl
theorem Ty.i34 : Inf Tryz.prog 34 (.agg #[(.int .i64 0), (.slice none 0 0)]) 2 32 := by unfold Inf; kernel_rfl
theorem Ty.a36 : AggC Tryz.prog 36 := ⟨_, Tryz.underlying36, rfl⟩
theorem Ty.s36 : (Tryz.prog.info? 36).map (·.size) = some 7 := by kernel_rfl
theorem Ty.p36 : plc Tryz.prog 36 = some [(0, 1), (1, 1), (2, 1), (3, 1), (4, 2), (6, 1)] := by kernel_rfl
theorem Ty.i36 : Inf Tryz.prog 36 (.agg #[(.int .i64 0), (.slice none 0 0), (.slice none 0 0), (.slice none 0 0), (.int .i64 0), (.slice none 0 0), (.slice none 0 0)]) 7 136 := by unfold Inf; kernel_rfl
theorem Ty.a68 : AggC Tryz.prog 68 := ⟨_, Tryz.underlying68, rfl⟩
theorem Ty.s68 : (Tryz.prog.info? 68).map (·.size) = some 3 := by kernel_rfl
theorem Ty.a78 : AggC Tryz.prog 78 := ⟨_, Tryz.underlying78, rfl⟩
theorem Ty.s78 : (Tryz.prog.info? 78).map (·.size) = some 3 := by kernel_rfl
theorem Ty.p78 : plc Tryz.prog 78 = some [(0, 1), (1, 1), (2, 1)] := by kernel_rfl
theorem Ty.i78 : Inf Tryz.prog 78 (.agg #[(.int .i64 0), (.int .i64 0), (.int .i64 0)]) 3 24 := by unfold Inf; kernel_rfl
theorem Ty.a79 : AggC Tryz.prog 79 := ⟨_, Tryz.underlying79, rfl⟩
theorem Ty.s79 : (Tryz.prog.info? 79).map (·.size) = some 3 := by kernel_rfl
theorem Ty.i79 : Inf Tryz.prog 79 (.agg #[(.int .i64 0), (.int .i64 0), (.slice none 0 0)]) 3 40 := by unfold Inf; kernel_rfl
theorem Ty.a82 : AggC Tryz.prog 82 := ⟨_, Tryz.underlying82, rfl⟩
theorem Ty.s82 : (Tryz.prog.info? 82).map (·.size) = some 3 := by kernel_rfl
theorem Ty.a84 : AggC Tryz.prog 84 := ⟨_, Tryz.underlying84, rfl⟩
theorem Ty.s84 : (Tryz.prog.info? 84).map (·.size) = some 2 := by kernel_rfl
theorem Ty.i84 : Inf Tryz.prog 84 (.agg #[(.int .i64 0), (.int .i64 0)]) 2 16 := by unfold Inf; kernel_rfl
theorem Ty.a86 : AggC Tryz.prog 86 := ⟨_, Tryz.underlying86, rfl⟩
theorem Ty.s86 : (Tryz.prog.info? 86).map (·.size) = some 2 := by kernel_rfl
theorem Ty.p123 : plc Tryz.prog 123 = some [(0, 1)] := by kernel_rfl
theorem Ty.i123 : Inf Tryz.prog 123 (.agg #[(.slice none 0 0)]) 1 24 := by unfold Inf; kernel_rfl
open Go Go.Ro Tryz
section
variable {w : World} {C : World → Prop}
theorem l6In_c (hK : C w) {n lo hi : Int} : Ret prog 81 #[.int .i64 n, .int .i64 lo, .int .i64 hi] w (fun r w' => r = .bool (decide (lo ≤ n ∧ n ≤ hi)) ∧ C w') := by
 refine enter1 (args := [.int .i64 n, .int .i64 lo, .int .i64 hi]) func81 rfl rfl rfl rfl ?_
 refine sq <| rg <| ?_
 refine vl (aB rfl) <| nl <| thn <| sq <| rg <| vl (mI rfl) <| vl (mI rfl) <| vl (ge rfl rfl) <| vl (mB rfl) <| ?_
 refine splP (t := 10) rfl (fun h => ?_) fun h => ?_
 ·refine gy rfl <| vl (mI rfl) <| gy rfl <| vl (mI rfl) <| gy rfl <| vl (le rfl rfl) <| vl (pk rfl) <| vl (aB rfl) <| nl <| thn <| rt <| p1r (a := .bool _) rfl <| ?_
  exact ⟨by simp [h], hK⟩
 ·refine gn rfl <| gn rfl <| gn rfl <| vl (pk rfl) <| vl (aB rfl) <| nl <| thn <| rt <| p1r (a := .bool _) rfl <| ?_
  exact ⟨by simp [h], hK⟩
theorem inRange_c (hK : C w) {n lo hi : Int} : Ret prog 68 #[.int .i64 n, .int .i64 lo, .int .i64 hi] w (fun r w' => r = .bool (decide (lo ≤ n ∧ n ≤ hi)) ∧ C w') := by
 refine enter1 (args := [.int .i64 n, .int .i64 lo, .int .i64 hi]) func68 rfl rfl rfl rfl ?_
 refine sq <| rg <| ?_
 refine vl (aB rfl) <| nl <| thn <| sq <| rg <| vl (mI rfl) <| vl (mI rfl) <| vl (le rfl rfl) <| vl (mB rfl) <| ?_
 refine splP (t := 10) rfl (fun h => ?_) fun h => ?_
 ·refine gy rfl <| vl (mI rfl) <| gy rfl <| vl (mI rfl) <| gy rfl <| vl (le rfl rfl) <| vl (pk rfl) <| vl (aB rfl) <| nl <| thn <| rt <| p1r (a := .bool _) rfl <| ?_
  exact ⟨by simp [h], hK⟩
 ·refine gn rfl <| gn rfl <| gn rfl <| vl (pk rfl) <| vl (aB rfl) <| nl <| thn <| rt <| p1r (a := .bool _) rfl <| ?_
  exact ⟨by simp [h], hK⟩
theorem l1Point_c (hK : C w) {n : Int} : Ret prog 84 #[.int .i64 n] w (fun r w' => r = .bool (decide (0 ≤ n ∧ n ≤ 63)) ∧ C w') := by
 refine enter1 (args := [.int .i64 n]) func84 rfl rfl rfl rfl ?_
 refine sq <| rg <| ?_
 refine vl (aB rfl) <| nl <| thn <| sq <| rg <| vl (mI rfl) <| ?_
 refine cl call81 rfl (l6In_c (C := C) hK) ?_
 rintro _ w ⟨rfl, hK⟩
 refine vl (aB rfl) <| nl <| thn <| rt <| p1r (a := .bool _) rfl <| ?_
 exact ⟨rfl, hK⟩
theorem posok_c (hK : C w) {n : Int} : Ret prog 94 #[.int .i64 n] w (fun r w' => r = .bool (decide (0 ≤ n ∧ n ≤ 63)) ∧ C w') := by
 refine enter1 (args := [.int .i64 n]) func94 rfl rfl rfl rfl ?_
 refine sq <| rg <| ?_
 refine vl (aB rfl) <| nl <| thn <| sq <| rg <| vl (mI rfl) <| vl (ge rfl rfl) <| vl (mB rfl) <| ?_
 refine splP (t := 5) rfl (fun h => ?_) fun h => ?_
 ·refine gy rfl <| vl (mI rfl) <| gy rfl <| vl (lt rfl rfl) <| vl (pk rfl) <| vl (aB rfl) <| nl <| thn <| rt <| p1r (a := .bool _) rfl <| ?_
  exact ⟨by simp [h]; omega, hK⟩
 ·refine gn rfl <| gn rfl <| vl (pk rfl) <| vl (aB rfl) <| nl <| thn <| rt <| p1r (a := .bool _) rfl <| ?_
  exact ⟨by simp [h], hK⟩
end
open Go Go.Ro Tryz
section
variable {e w : World} {G : View} {L : Own} {v u : Value} {xs ys : List Int}
theorem set_map (xs : List Int) (i m : Nat) (hi : i < xs.length) (hm : m = xs.length) :
  (ints (xs.take i) ++ List.replicate (m - i) (Value.int .i64 0)).set (0 + i) (.int .i64 xs[i]) = ints (xs.take (i + 1)) ++ List.replicate (m - (i + 1)) (Value.int .i64 0) := by
 subst hm
 rw [Nat.zero_add, List.set_append_right _ _ (by simp [ints]; omega), List.take_succ_eq_append_getElem hi]
 have : i - (ints (xs.take i)).length = 0 := by simp [ints]; omega
 rw [this, show xs.length - i = (xs.length - (i + 1)) + 1 by omega, List.replicate_succ]
 simp only [ints, List.map_append, List.map_cons, List.map_nil, List.append_assoc, List.cons_append, List.nil_append, List.set_cons_zero]
theorem toIntS_c (hK : K e w G L) (hv : IntS G v xs) (hl : xs.length ≤ 1048576) :
  Ret prog 25 #[v] w (fun r w' => ∃ b, r = .slice (some ⟨b, 0, none⟩) xs.length xs.length ∧ K e w' G ((b, row (ints xs) 3) :: L)) := by
 refine enter1 (args := [v]) func25 rfl rfl rfl rfl ?_
 refine sq <| rg <| ?_
 refine vl asg <| nl <| thn <| sq <| rg <| vl mv <| vl (ln underlying25 rfl hv.len) <| ?_
 refine mks hK underlying25 Ty.i3 rfl rfl rfl rfl rfl (by first | omega | (simp only; omega)) rfl ?_
 intro b7 w ho7 hK
 refine vl asg <| nl <| thn <| sq <| sq <| rg <| vl (aI rfl) <| nl <| thn <| bk <| ?_
 rw [List.flatten_replicate_singleton] at hK ho7
 refine lp (σ := Nat) (fun i => [(0, v), (3, .slice (some ⟨b7, 0, none⟩) xs.length xs.length), (4, .int .i64 (i : Int))]) (fun i w => i ≤ xs.length ∧ K e w G ((b7, row (ints (xs.take i) ++ List.replicate (xs.length - i) (.int .i64 0)) 3) :: L)) (fun i => xs.length - i) 0 ⟨rfl, rfl, rfl, trivial⟩ ⟨Nat.zero_le _, by simpa [ints] using hK⟩ ?_
 rintro i g w ⟨hi, hK⟩
 refine sq <| sq <| rg <| ?_
 refine vl (mI rfl) <| vl mv <| vl (ln underlying25 rfl hv.len) <| vl (lt rfl rfl) <| nl <| thn <| ?_
 refine cdP rfl (fun hc => ?_) fun hc => ?_
 ·have hi' : i < xs.length := by omega
  refine sk <| thn <| sq <| bk <| rg <| ?_
  refine vl mv <| vl (mI rfl) <| vl mv <| vl (mI rfl) <| vl (ixn1 underlying25 Ty.s3 rfl hv.1 rfl (by first | omega | (simp only; omega))) <| vl (ldV hK Ty.o3 rfl (hv.at (by first | omega | (simp only; omega)))) <| vl (ixn1 underlying25 Ty.s3 rfl ho7.slw rfl (by first | omega | (simp only; omega))) <| ?_
  refine soi hK Ty.i3 rfl 0 rfl rfl rfl rfl (by simp; omega) ?_
  intro w hK
  refine nl <| bkn <| thn <| rg <| vl (mI rfl) <| vl (ad rfl rfl) <| vl (aI rfl) <| nl <| thn <| ?_
  refine ⟨i + 1, ⟨rfl, rfl, rfl, trivial⟩, ⟨by omega, ?_⟩, by omega⟩
  rw [← set_map xs i xs.length hi' rfl]; exact hK
 ·have : i = xs.length := by omega
  subst this
  refine ex <| the <| the <| bkh <| thn <| sq <| rg <| ?_
  refine vl mv <| vl asg <| nl <| thn <| rt <| p1r (a := _) rfl <| ?_
  exact ⟨_, rfl, by simpa [ints] using hK⟩
theorem toIntS_v (hK : K e w G L) (hv : IntS G v xs) (hl : xs.length ≤ 1048576) :
  Ret prog 25 #[v] w (fun r w' => ∃ G', VLe G G' ∧ IntS G' r xs ∧ K e w' G' L) :=
 (toIntS_c hK hv hl).mono fun _ _ ⟨_, hr, hK⟩ => by
  obtain ⟨G', h1, h2, h3⟩ := hK.pubI (Nat.le_refl _) (by omega)
  subst hr
  exact ⟨G', h1, h2, h3⟩
theorem eqIntS_c (hK : K e w G L) (hv : IntS G v xs) (hu : IntS G u ys) :
  Ret prog 34 #[v, u] w (fun r w' => r = .bool (decide (xs = ys)) ∧ K e w' G L) := by
 have hle := hv.le
 refine enter1 (args := [v, u]) func34 rfl rfl rfl rfl ?_
 refine sq <| rg <| ?_
 refine vl (aB rfl) <| nl <| thn <| sq <| sq <| rg <| vl mv <| vl (ln underlying25 rfl hv.len) <| vl mv <| vl (ln underlying25 rfl hu.len) <| vl (ne rfl rfl) <| nl <| thn <| ?_
 refine cdP rfl (fun h => ?_) fun h => ?_
 ·refine sq <| rg <| ?_
  refine vl (aB rfl) <| nl <| thn <| rt <| thr <| p1r (a := .bool _) rfl <| ?_
  exact ⟨by rw [decide_eq_false]; rintro rfl; exact h rfl, hK⟩
 ·have hlen : xs.length = ys.length := by omega
  refine sk <| thn <| sq <| sq <| rg <| ?_
  refine vl (aI rfl) <| nl <| thn <| bk <| ?_
  refine lp (σ := Nat) (fun i => [(0, v), (1, u), (5, .int .i64 (i : Int))]) (fun i w => i ≤ xs.length ∧ xs.take i = ys.take i ∧ K e w G L) (fun i => xs.length - i) 0 ⟨rfl, rfl, rfl, trivial⟩ ⟨Nat.zero_le _, by simp, hK⟩ ?_
  rintro i g w ⟨hi, ht, hK⟩
  refine sq <| sq <| rg <| ?_
  refine vl (mI rfl) <| vl mv <| vl (ln underlying25 rfl hv.len) <| vl (lt rfl rfl) <| nl <| thn <| ?_
  refine cdP rfl (fun hc => ?_) fun hc => ?_
  ·refine sk <| thn <| sq <| bk <| sq <| ?_
   refine rgq (fun w => K _ w _ _) Ty.mixed (by kernel_rfl) (hK.drawn _) ?_
   refine qv (fun w hK => mv) <| qv (fun w hK => (mI rfl)) <| qv (fun w hK => (ixn1 underlying25 Ty.s3 rfl hv.1 rfl (by first | omega | (simp only; omega)))) <| qldV Ty.o3 rfl (hv.at (by first | omega | (simp only; omega))) <| qv (fun w hK => mv) <| qv (fun w hK => (mI rfl)) <| qv (fun w hK => (ixn1 underlying25 Ty.s3 rfl hu.1 rfl (by first | omega | (simp only; omega)))) <| qldV Ty.o3 rfl (hu.at (by first | omega | (simp only; omega))) <| qv (fun w hK => (ne rfl rfl)) <| qn <| ?_
   intro w hK
   refine thn <| ?_
   refine cdP rfl (fun hx => ?_) fun hx => ?_
   ·refine sq <| rg <| ?_
    refine vl (aB rfl) <| nl <| thn <| rt <| bkr <| thr <| thr <| bkr <| thr <| p1r (a := .bool _) rfl <| ?_
    exact ⟨by rw [decide_eq_false]; rintro rfl; exact hx rfl, hK⟩
   ·refine sk <| bkn <| thn <| rg <| ?_
    refine vl (mI rfl) <| vl (ad rfl rfl) <| vl (aI rfl) <| nl <| thn <| ?_
    exact ⟨i + 1, ⟨rfl, rfl, rfl, trivial⟩, ⟨by omega, by rw [List.take_succ_eq_append_getElem (by omega), List.take_succ_eq_append_getElem (by omega), ht, Decidable.not_not.1 hx], hK⟩, by omega⟩
  ·refine ex <| the <| the <| bkh <| thn <| sq <| rg <| ?_
   refine vl (aB rfl) <| nl <| thn <| rt <| p1r (a := .bool _) rfl <| ?_
   exact ⟨by rw [decide_eq_true]; rw [List.take_of_length_le (by omega), List.take_of_length_le (by omega)] at ht; exact ht, hK⟩
theorem l1Has_c (hK : K e w G L) (hv : IntS G v xs) {n : Int} :
  Ret prog 53 #[v, .int .i64 n] w (fun r w' => r = .bool (decide (n ∈ xs)) ∧ K e w' G L) := by
 have hle := hv.le
 refine enter1 (args := [v, .int .i64 n]) func53 rfl rfl rfl rfl ?_
 refine sq <| rg <| ?_
 refine vl (aB rfl) <| nl <| thn <| sq <| sq <| rg <| vl (aI rfl) <| nl <| thn <| bk <| ?_
 refine lp (σ := Nat) (fun i => [(0, v), (1, .int .i64 n), (5, .int .i64 (i : Int))]) (fun i w => i ≤ xs.length ∧ n ∉ xs.take i ∧ K e w G L) (fun i => xs.length - i) 0 ⟨rfl, rfl, rfl, trivial⟩ ⟨Nat.zero_le _, by simp, hK⟩ ?_
 rintro i g w ⟨hi, hn, hK⟩
 refine sq <| sq <| rg <| ?_
 refine vl (mI rfl) <| vl mv <| vl (ln underlying25 rfl hv.len) <| vl (lt rfl rfl) <| nl <| thn <| ?_
 refine cdP rfl (fun hc => ?_) fun hc => ?_
 ·refine sk <| thn <| sq <| bk <| sq <| rg <| ?_
  refine vl mv <| vl (mI rfl) <| vl (ixn1 underlying25 Ty.s3 rfl hv.1 rfl (by first | omega | (simp only; omega))) <| vl (ldV hK Ty.o3 rfl (hv.at (by first | omega | (simp only; omega)))) <| vl (mI rfl) <| vl (eq rfl rfl) <| nl <| thn <| ?_
  refine cdP rfl (fun hx => ?_) fun hx => ?_
  ·refine sq <| rg <| ?_
   refine vl (aB rfl) <| nl <| thn <| rt <| bkr <| thr <| thr <| bkr <| thr <| p1r (a := .bool _) rfl <| ?_
   exact ⟨by rw [decide_eq_true]; rw [← hx]; exact List.getElem_mem _, hK⟩
  ·refine sk <| bkn <| thn <| rg <| ?_
   refine vl (mI rfl) <| vl (ad rfl rfl) <| vl (aI rfl) <| nl <| thn <| ?_
   exact ⟨i + 1, ⟨rfl, rfl, rfl, trivial⟩, ⟨by omega, by rw [List.take_succ_eq_append_getElem (by omega)]; grind, hK⟩, by omega⟩
 ·refine ex <| the <| the <| bkh <| thn <| sq <| rg <| ?_
  refine vl (aB rfl) <| nl <| thn <| rt <| p1r (a := .bool _) rfl <| ?_
  have : i = xs.length := by omega
  subst this
  exact ⟨by rw [decide_eq_false]; simpa using hn, hK⟩
theorem szIntS_c (hK : K e w G L) (hv : IntS G v xs) {n : Int} (h0 : 0 ≤ n) (h1 : n ≤ 1048576) :
  Ret prog 15 #[v, .int .i64 n] w (fun r w' => (∃ k, r = .int .i64 k ∧ -1 ≤ k ∧ k ≤ n ∧ (0 ≤ k → k = n - xs.length)) ∧ K e w' G L) := by
 have hle := hv.le
 refine enter1 (args := [v, .int .i64 n]) func15 rfl rfl rfl rfl ?_
 refine sq <| rg <| ?_
 refine vl (aI rfl) <| nl <| thn <| sq <| rg <| vl (mI rfl) <| vl mv <| vl (ln underlying25 rfl hv.len) <| vl (sb rfl rfl) <| vl (aI rfl) <| nl <| thn <| sq <| sq <| rg <| vl (mI rfl) <| vl (lt rfl rfl) <| nl <| thn <| ?_
 refine cdP rfl (fun h => ?_) fun h => ?_
 ·refine sq <| rg <| ?_
  refine vl (aI rfl) <| nl <| thn <| rt <| thr <| p1r (a := .int _ _) rfl <| ?_
  exact ⟨⟨_, rfl, by omega, by omega, by omega⟩, hK⟩
 ·refine sk <| thn <| sq <| rg <| ?_
  refine vl (mI rfl) <| vl (aI rfl) <| nl <| thn <| rt <| p1r (a := .int _ _) rfl <| ?_
  exact ⟨⟨_, rfl, by omega, by omega, by omega⟩, hK⟩
end
end Go.Proofs.YtmgggljicpmndaaGreat
