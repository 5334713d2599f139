/- Contracts of the small functions on numbers. Contracts of the functions that copy, compare and mark slices of numbers. Contracts of the library's functions on slices of numbers. Conditions: those that each row states. -/
import Derived.Test.YtmgggljicpmndaaGreatDoorType
import Derived.Test.YtmgggljicpmndaaGreatDoorMp
import Derived.Test.YtmgggljicpmndaaGreatDoorRd
namespace Go.Proofs.YtmgggljicpmndaaGreatDoor
open Go Go.Ro Tryz
section
variable {w : World} {C : World → Prop}
theorem l6In_c (hK : C w) {n lo hi : Int} : Ret prog 104 #[.int .i64 n, .int .i64 lo, .int .i64 hi] w (fun r w' => r = .bool (decide (lo ≤ n ∧ n ≤ hi)) ∧ C w') := by
 refine enter1 (args := [.int .i64 n, .int .i64 lo, .int .i64 hi]) func104 rfl rfl rfl rfl ?_
 refine sq <| rg <| ?_
 refine vl (aB rfl) <| nl <| thn <| sq <| rg <| vl (mI rfl) <| vl (mI rfl) <| vl (ge rfl rfl) <| vl (mB rfl) <| ?_
 refine splP (t := 10) rfl (fun h => ?_) fun h => ?_
 ·refine gy rfl <| vl (mI rfl) <| gy rfl <| vl (mI rfl) <| gy rfl <| vl (le rfl rfl) <| vl (pk rfl) <| vl (aB rfl) <| nl <| thn <| rt <| p1r (a := .bool _) rfl <| ?_
  exact ⟨by simp [h], hK⟩
 ·refine gn rfl <| gn rfl <| gn rfl <| vl (pk rfl) <| vl (aB rfl) <| nl <| thn <| rt <| p1r (a := .bool _) rfl <| ?_
  exact ⟨by simp [h], hK⟩
theorem inRange_c (hK : C w) {n lo hi : Int} : Ret prog 89 #[.int .i64 n, .int .i64 lo, .int .i64 hi] w (fun r w' => r = .bool (decide (lo ≤ n ∧ n ≤ hi)) ∧ C w') := by
 refine enter1 (args := [.int .i64 n, .int .i64 lo, .int .i64 hi]) func89 rfl rfl rfl rfl ?_
 refine sq <| rg <| ?_
 refine vl (aB rfl) <| nl <| thn <| sq <| rg <| vl (mI rfl) <| vl (mI rfl) <| vl (le rfl rfl) <| vl (mB rfl) <| ?_
 refine splP (t := 10) rfl (fun h => ?_) fun h => ?_
 ·refine gy rfl <| vl (mI rfl) <| gy rfl <| vl (mI rfl) <| gy rfl <| vl (le rfl rfl) <| vl (pk rfl) <| vl (aB rfl) <| nl <| thn <| rt <| p1r (a := .bool _) rfl <| ?_
  exact ⟨by simp [h], hK⟩
 ·refine gn rfl <| gn rfl <| gn rfl <| vl (pk rfl) <| vl (aB rfl) <| nl <| thn <| rt <| p1r (a := .bool _) rfl <| ?_
  exact ⟨by simp [h], hK⟩
theorem l1Point_c (hK : C w) {n : Int} : Ret prog 99 #[.int .i64 n] w (fun r w' => r = .bool (decide (0 ≤ n ∧ n ≤ 63)) ∧ C w') := by
 refine enter1 (args := [.int .i64 n]) func99 rfl rfl rfl rfl ?_
 refine sq <| rg <| ?_
 refine vl (aB rfl) <| nl <| thn <| sq <| rg <| vl (mI rfl) <| ?_
 refine cl call104 rfl (l6In_c (C := C) hK) ?_
 rintro _ w ⟨rfl, hK⟩
 refine vl (aB rfl) <| nl <| thn <| rt <| p1r (a := .bool _) rfl <| ?_
 exact ⟨rfl, hK⟩
theorem posok_c (hK : C w) {n : Int} : Ret prog 137 #[.int .i64 n] w (fun r w' => r = .bool (decide (0 ≤ n ∧ n ≤ 63)) ∧ C w') := by
 refine enter1 (args := [.int .i64 n]) func137 rfl rfl rfl rfl ?_
 refine sq <| rg <| ?_
 refine vl (aB rfl) <| nl <| thn <| sq <| rg <| vl (mI rfl) <| vl (ge rfl rfl) <| vl (mB rfl) <| ?_
 refine splP (t := 5) rfl (fun h => ?_) fun h => ?_
 ·refine gy rfl <| vl (mI rfl) <| gy rfl <| vl (lt rfl rfl) <| vl (pk rfl) <| vl (aB rfl) <| nl <| thn <| rt <| p1r (a := .bool _) rfl <| ?_
  exact ⟨by simp [h]; omega, hK⟩
 ·refine gn rfl <| gn rfl <| vl (pk rfl) <| vl (aB rfl) <| nl <| thn <| rt <| p1r (a := .bool _) rfl <| ?_
  exact ⟨by simp [h], hK⟩
end
open Go Go.Ro Tryz
section
variable {e w : World} {G : View} {L : Own} {v u : Value} {xs ys : List Int}
theorem set_map (xs : List Int) (i m : Nat) (hi : i < xs.length) (hm : m = xs.length) :
  (ints (xs.take i) ++ List.replicate (m - i) (Value.int .i64 0)).set (0 + i) (.int .i64 xs[i]) = ints (xs.take (i + 1)) ++ List.replicate (m - (i + 1)) (Value.int .i64 0) := by
 subst hm
 rw [Nat.zero_add, List.set_append_right _ _ (by simp [ints]; omega), List.take_succ_eq_append_getElem hi]
 have : i - (ints (xs.take i)).length = 0 := by simp [ints]; omega
 rw [this, show xs.length - i = (xs.length - (i + 1)) + 1 by omega, List.replicate_succ]
 simp only [ints, List.map_append, List.map_cons, List.map_nil, List.append_assoc, List.cons_append, List.nil_append, List.set_cons_zero]
theorem toIntS_c (hK : K e w G L) (hv : IntS G v xs) (hl : xs.length ≤ 1048576) :
  Ret prog 7 #[v] w (fun r w' => ∃ b, r = .slice (some ⟨b, 0, none⟩) xs.length xs.length ∧ K e w' G ((b, row (ints xs) 3) :: L)) := by
 refine enter1 (args := [v]) func7 rfl rfl rfl rfl ?_
 refine sq <| rg <| ?_
 refine vl asg <| nl <| thn <| sq <| rg <| vl mv <| vl (ln underlying22 rfl hv.len) <| ?_
 refine mks hK underlying22 Ty.i3 rfl rfl rfl rfl rfl (by first | omega | (simp only; omega)) rfl ?_
 intro b7 w ho7 hK
 refine vl asg <| nl <| thn <| sq <| sq <| rg <| vl (aI rfl) <| nl <| thn <| bk <| ?_
 rw [List.flatten_replicate_singleton] at hK ho7
 refine lp (σ := Nat) (fun i => [(0, v), (3, .slice (some ⟨b7, 0, none⟩) xs.length xs.length), (4, .int .i64 (i : Int))]) (fun i w => i ≤ xs.length ∧ K e w G ((b7, row (ints (xs.take i) ++ List.replicate (xs.length - i) (.int .i64 0)) 3) :: L)) (fun i => xs.length - i) 0 ⟨rfl, rfl, rfl, trivial⟩ ⟨Nat.zero_le _, by simpa [ints] using hK⟩ ?_
 rintro i g w ⟨hi, hK⟩
 refine sq <| sq <| rg <| ?_
 refine vl (mI rfl) <| vl mv <| vl (ln underlying22 rfl hv.len) <| vl (lt rfl rfl) <| nl <| thn <| ?_
 refine cdP rfl (fun hc => ?_) fun hc => ?_
 ·have hi' : i < xs.length := by omega
  refine sk <| thn <| sq <| bk <| rg <| ?_
  refine vl mv <| vl (mI rfl) <| vl mv <| vl (mI rfl) <| vl (ixn1 underlying22 Ty.s3 rfl hv.1 rfl (by first | omega | (simp only; omega))) <| vl (ldV hK Ty.o3 rfl (hv.at (by first | omega | (simp only; omega)))) <| vl (ixn1 underlying22 Ty.s3 rfl ho7.slw rfl (by first | omega | (simp only; omega))) <| ?_
  refine soi hK Ty.i3 rfl 0 rfl rfl rfl rfl (by simp; omega) ?_
  intro w hK
  refine nl <| bkn <| thn <| rg <| vl (mI rfl) <| vl (ad rfl rfl) <| vl (aI rfl) <| nl <| thn <| ?_
  refine ⟨i + 1, ⟨rfl, rfl, rfl, trivial⟩, ⟨by omega, ?_⟩, by omega⟩
  rw [← set_map xs i xs.length hi' rfl]; exact hK
 ·have : i = xs.length := by omega
  subst this
  refine ex <| the <| the <| bkh <| thn <| sq <| rg <| ?_
  refine vl mv <| vl asg <| nl <| thn <| rt <| p1r (a := _) rfl <| ?_
  exact ⟨_, rfl, by simpa [ints] using hK⟩
theorem toIntS_v (hK : K e w G L) (hv : IntS G v xs) (hl : xs.length ≤ 1048576) :
  Ret prog 7 #[v] w (fun r w' => ∃ G', VLe G G' ∧ IntS G' r xs ∧ K e w' G' L) :=
 (toIntS_c hK hv hl).mono fun _ _ ⟨_, hr, hK⟩ => by
  obtain ⟨G', h1, h2, h3⟩ := hK.pubI (Nat.le_refl _) (by omega)
  subst hr
  exact ⟨G', h1, h2, h3⟩
theorem eqIntS_c (hK : K e w G L) (hv : IntS G v xs) (hu : IntS G u ys) :
  Ret prog 11 #[v, u] w (fun r w' => r = .bool (decide (xs = ys)) ∧ K e w' G L) := by
 have hle := hv.le
 refine enter1 (args := [v, u]) func11 rfl rfl rfl rfl ?_
 refine sq <| rg <| ?_
 refine vl (aB rfl) <| nl <| thn <| sq <| sq <| rg <| vl mv <| vl (ln underlying22 rfl hv.len) <| vl mv <| vl (ln underlying22 rfl hu.len) <| vl (ne rfl rfl) <| nl <| thn <| ?_
 refine cdP rfl (fun h => ?_) fun h => ?_
 ·refine sq <| rg <| ?_
  refine vl (aB rfl) <| nl <| thn <| rt <| thr <| p1r (a := .bool _) rfl <| ?_
  exact ⟨by rw [decide_eq_false]; rintro rfl; exact h rfl, hK⟩
 ·have hlen : xs.length = ys.length := by omega
  refine sk <| thn <| sq <| sq <| rg <| ?_
  refine vl (aI rfl) <| nl <| thn <| bk <| ?_
  refine lp (σ := Nat) (fun i => [(0, v), (1, u), (5, .int .i64 (i : Int))]) (fun i w => i ≤ xs.length ∧ xs.take i = ys.take i ∧ K e w G L) (fun i => xs.length - i) 0 ⟨rfl, rfl, rfl, trivial⟩ ⟨Nat.zero_le _, by simp, hK⟩ ?_
  rintro i g w ⟨hi, ht, hK⟩
  refine sq <| sq <| rg <| ?_
  refine vl (mI rfl) <| vl mv <| vl (ln underlying22 rfl hv.len) <| vl (lt rfl rfl) <| nl <| thn <| ?_
  refine cdP rfl (fun hc => ?_) fun hc => ?_
  ·refine sk <| thn <| sq <| bk <| sq <| ?_
   refine rgq (fun w => K _ w _ _) Ty.mixed (by kernel_rfl) (hK.drawn _) ?_
   refine qv (fun w hK => mv) <| qv (fun w hK => (mI rfl)) <| qv (fun w hK => (ixn1 underlying22 Ty.s3 rfl hv.1 rfl (by first | omega | (simp only; omega)))) <| qldV Ty.o3 rfl (hv.at (by first | omega | (simp only; omega))) <| qv (fun w hK => mv) <| qv (fun w hK => (mI rfl)) <| qv (fun w hK => (ixn1 underlying22 Ty.s3 rfl hu.1 rfl (by first | omega | (simp only; omega)))) <| qldV Ty.o3 rfl (hu.at (by first | omega | (simp only; omega))) <| qv (fun w hK => (ne rfl rfl)) <| qn <| ?_
   intro w hK
   refine thn <| ?_
   refine cdP rfl (fun hx => ?_) fun hx => ?_
   ·refine sq <| rg <| ?_
    refine vl (aB rfl) <| nl <| thn <| rt <| bkr <| thr <| thr <| bkr <| thr <| p1r (a := .bool _) rfl <| ?_
    exact ⟨by rw [decide_eq_false]; rintro rfl; exact hx rfl, hK⟩
   ·refine sk <| bkn <| thn <| rg <| ?_
    refine vl (mI rfl) <| vl (ad rfl rfl) <| vl (aI rfl) <| nl <| thn <| ?_
    exact ⟨i + 1, ⟨rfl, rfl, rfl, trivial⟩, ⟨by omega, by rw [List.take_succ_eq_append_getElem (by omega), List.take_succ_eq_append_getElem (by omega), ht, Decidable.not_not.1 hx], hK⟩, by omega⟩
  ·refine ex <| the <| the <| bkh <| thn <| sq <| rg <| ?_
   refine vl (aB rfl) <| nl <| thn <| rt <| p1r (a := .bool _) rfl <| ?_
   exact ⟨by rw [decide_eq_true]; rw [List.take_of_length_le (by omega), List.take_of_length_le (by omega)] at ht; exact ht, hK⟩
end
open Go Go.Ro Tryz
section
variable {e w : World} {G : View} {L : Own} {v u : Value} {xs ys : List Int}
theorem indexFunc_c {F : FuncId} {cap : List Value} {q : Int → Bool} (hf : ∀ args w, (callFunc F args).run prog w = .ok (.enter F args) w) (hK : K e w G L) (hv : IntS G v xs)
  (hp : ∀ x w, K e w G L → Ret prog F ([Value.int .i64 x] ++ cap).toArray w (fun r w' => r = .bool (q x) ∧ K e w' G L)) :
  Ret prog 176 #[v, .func (.func F) #[] cap.toArray] w (fun r w' => (∃ i, r = .int .i64 i ∧ IdxOf q xs i) ∧ K e w' G L) := by
 have hle := hv.le
 refine enter1 (args := [v, .func (.func F) #[] cap.toArray]) func176 rfl rfl rfl rfl ?_
 refine sq <| rg <| ?_
 refine vl (aI rfl) <| nl <| thn <| sq <| sq <| rg <| vl mv <| vl (ln underlying22 rfl hv.len) <| vl (mI rfl) <| nl <| thn <| bk <| ?_
 refine lp (σ := Nat) (fun i => [(0, v), (1, .func (.func F) #[] cap.toArray), (7, .int .i64 (xs.length : Int)), (8, .int .i64 (i : Int))]) (fun i w => i ≤ xs.length ∧ (∀ x ∈ xs.take i, q x = false) ∧ K e w G L) (fun i => xs.length - i) 0 ⟨rfl, rfl, rfl, rfl, trivial⟩ ⟨Nat.zero_le _, by simp, hK⟩ ?_
 rintro i g w ⟨hi, ha, hK⟩
 refine sq <| rg <| ?_
 refine vl (lt rfl rfl) <| nl <| thn <| sq <| ?_
 refine cdP rfl (fun hc => ?_) fun hc => ?_
 ·have hi' : i < xs.length := by omega
  refine sk <| thn <| sq <| bk <| sq <| rg <| ?_
  refine vl (mI rfl) <| vl (aI rfl) <| nl <| thn <| sq <| rg <| vl mv <| vl mv <| vl (mI rfl) <| vl (ixn1 underlying22 Ty.s3 rfl hv.1 rfl (by first | omega | (simp only; omega))) <| vl (ldV hK Ty.o3 rfl (hv.at (by first | omega | (simp only; omega)))) <| ?_
  refine cf (cap := cap) (hf) rfl rfl (hp xs[i] w hK) ?_
  rintro _ w ⟨rfl, hK⟩
  refine nl <| thn <| ?_
  refine cdB rfl (fun hq => ?_) fun hq => ?_
  ·refine sq <| rg <| ?_
   refine vl (mI rfl) <| vl (aI rfl) <| nl <| thn <| rt <| bkr <| thr <| thr <| bkr <| thr <| p1r (a := .int _ _) rfl <| ?_
   exact ⟨⟨_, rfl, .inr ⟨i, rfl, hi', hq, ha⟩⟩, hK⟩
  ·refine sk <| bkn <| thn <| rg <| ?_
   refine vl (ad rfl rfl) <| vl (mI rfl) <| nl <| thn <| ?_
   exact ⟨i + 1, ⟨rfl, rfl, rfl, rfl, trivial⟩, ⟨hi', all_take hi' ha (by simpa using hq), hK⟩, by omega⟩
 ·have hi' : i = xs.length := by omega
  subst hi'
  refine ex <| the <| the <| bkh <| thn <| sq <| rg <| ?_
  refine vl (aI rfl) <| nl <| thn <| rt <| p1r (a := .int _ _) rfl <| ?_
  rw [List.take_length] at ha
  exact ⟨⟨_, rfl, .inl ⟨rfl, ha⟩⟩, hK⟩
theorem containsFunc_c {F : FuncId} {cap : List Value} {q : Int → Bool} (hf : ∀ args w, (callFunc F args).run prog w = .ok (.enter F args) w) (hK : K e w G L) (hv : IntS G v xs)
  (hp : ∀ x w, K e w G L → Ret prog F ([Value.int .i64 x] ++ cap).toArray w (fun r w' => r = .bool (q x) ∧ K e w' G L)) :
  Ret prog 130 #[v, .func (.func F) #[] cap.toArray] w (fun r w' => (∃ b, r = .bool b ∧ (b = true ↔ ∃ x ∈ xs, q x = true)) ∧ K e w' G L) := by
 refine enter1 (args := [v, .func (.func F) #[] cap.toArray]) func130 rfl rfl rfl rfl ?_
 refine sq <| rg <| ?_
 refine vl (aB rfl) <| nl <| thn <| sq <| rg <| vl mv <| vl mv <| ?_
 refine cl call176 rfl (indexFunc_c hf hK hv hp) ?_
 rintro _ w ⟨⟨i, rfl, hi⟩, hK⟩
 refine vl (ge rfl rfl) <| vl (aB rfl) <| nl <| thn <| rt <| p1r (a := .bool _) rfl <| ?_
 exact ⟨⟨_, rfl, by rw [decide_eq_true_eq]; exact hi.ge⟩, hK⟩
end
end Go.Proofs.YtmgggljicpmndaaGreatDoor
