/- Contracts of the functions that copy, compare and mark slices of numbers. Conditions: those that each row states. -/
import Derived.Test.YtbkfnnifkdgbkaaSc
import Derived.Test.YtbkfnnifkdgbkaaMk
namespace Go.Proofs.Ytbkfnnifkdgbkaa
open Go Go.Ro

section
variable {e w : World} {G : View} {L : Own} {v u : Value} {xs ys : List Int}

theorem set_map (xs : List Int) (i m : Nat) (hi : i < xs.length) (hm : m = xs.length) :
  (ints (xs.take i) ++ List.replicate (m - i) (Value.int .i64 0)).set (0 + i) (.int .i64 xs[i]) = ints (xs.take (i + 1)) ++ List.replicate (m - (i + 1)) (Value.int .i64 0) := by
 subst hm
 rw [Nat.zero_add, List.set_append_right _ _ (by simp [ints]; omega), List.take_succ_eq_append_getElem hi]
 have : i - (ints (xs.take i)).length = 0 := by simp [ints]; omega
 rw [this, show xs.length - i = (xs.length - (i + 1)) + 1 by omega, List.replicate_succ]
 simp only [ints, List.map_append, List.map_cons, List.map_nil, List.append_assoc, List.cons_append, List.nil_append, List.set_cons_zero]

theorem toIntS_c (hK : K e w G L) (hv : IntS G v xs) (hl : xs.length ≤ 1048576) :
  Ret Try.prog 5 #[v] w (fun r w' => ∃ b, r = .slice (some ⟨b, 0, none⟩) xs.length xs.length ∧ K e w' G ((b, row (ints xs) 3) :: L)) := by
 refine enter1 (args := [v]) Try.func5 rfl rfl rfl rfl ?_
 refine sq <| rg <| ?_
 refine vl asg <| nl <| thn <| sq <| rg <| vl mv <| vl (ln Try.underlying22 rfl hv.len) <| ?_
 refine mks hK Try.underlying22 Ty.i3 rfl rfl rfl rfl rfl (by first | omega | (simp only; omega)) rfl ?_
 intro b7 w ho7 hK
 refine vl asg <| nl <| thn <| sq <| sq <| rg <| vl (aI rfl) <| nl <| thn <| bk <| ?_
 rw [List.flatten_replicate_singleton] at hK ho7
 refine lp (σ := Nat) (fun i => [(0, v), (3, .slice (some ⟨b7, 0, none⟩) xs.length xs.length), (4, .int .i64 (i : Int))]) (fun i w => i ≤ xs.length ∧ K e w G ((b7, row (ints (xs.take i) ++ List.replicate (xs.length - i) (.int .i64 0)) 3) :: L)) (fun i => xs.length - i) 0 ⟨rfl, rfl, rfl, trivial⟩ ⟨Nat.zero_le _, by simpa [ints] using hK⟩ ?_
 rintro i g w ⟨hi, hK⟩
 refine sq <| sq <| rg <| ?_
 refine vl (mI rfl) <| vl mv <| vl (ln Try.underlying22 rfl hv.len) <| vl (lt rfl rfl) <| nl <| thn <| ?_
 refine cdP rfl (fun hc => ?_) (fun hc => ?_)
 ·have hi' : i < xs.length := by omega
  refine sk <| thn <| sq <| bk <| rg <| ?_
  refine vl mv <| vl (mI rfl) <| vl mv <| vl (mI rfl) <| vl (ixn1 Try.underlying22 Ty.s3 rfl hv.1 rfl (by first | omega | (simp only; omega))) <| vl (ldV hK Ty.o3 rfl (hv.at (by first | omega | (simp only; omega)))) <| vl (ixn1 Try.underlying22 Ty.s3 rfl ho7.slw rfl (by first | omega | (simp only; omega))) <| ?_
  refine soi hK Ty.i3 rfl 0 rfl rfl rfl rfl (by simp; omega) ?_
  intro w hK
  refine nl <| bkn <| thn <| rg <| vl (mI rfl) <| vl (ad rfl rfl) <| vl (aI rfl) <| nl <| thn <| ?_
  refine ⟨i + 1, ⟨rfl, rfl, rfl, trivial⟩, ⟨by omega, ?_⟩, by omega⟩
  rw [← set_map xs i xs.length hi' rfl]; exact hK
 ·have : i = xs.length := by omega
  subst this
  refine ex <| the <| the <| bkh <| thn <| sq <| rg <| ?_
  refine vl mv <| vl asg <| nl <| thn <| rt <| p1r (a := _) rfl <| ?_
  exact ⟨_, rfl, by simpa [ints] using hK⟩

theorem toIntS_v (hK : K e w G L) (hv : IntS G v xs) (hl : xs.length ≤ 1048576) :
  Ret Try.prog 5 #[v] w (fun r w' => ∃ G', VLe G G' ∧ IntS G' r xs ∧ K e w' G' L) :=
 (toIntS_c hK hv hl).mono fun _ _ ⟨_, hr, hK⟩ => by
  obtain ⟨G', h1, h2, h3⟩ := hK.pubI (Nat.le_refl _) (by omega)
  subst hr
  exact ⟨G', h1, h2, h3⟩

theorem eqIntS_c (hK : K e w G L) (hv : IntS G v xs) (hu : IntS G u ys) :
  Ret Try.prog 8 #[v, u] w (fun r w' => r = .bool (decide (xs = ys)) ∧ K e w' G L) := by
 have hle := hv.le
 refine enter1 (args := [v, u]) Try.func8 rfl rfl rfl rfl ?_
 refine sq <| rg <| ?_
 refine vl (aB rfl) <| nl <| thn <| sq <| sq <| rg <| vl mv <| vl (ln Try.underlying22 rfl hv.len) <| vl mv <| vl (ln Try.underlying22 rfl hu.len) <| vl (ne rfl rfl) <| nl <| thn <| ?_
 refine cdP rfl (fun h => ?_) (fun h => ?_)
 ·refine sq <| rg <| ?_
  refine vl (aB rfl) <| nl <| thn <| rt <| thr <| p1r (a := .bool _) rfl <| ?_
  exact ⟨by rw [decide_eq_false]; rintro rfl; exact h rfl, hK⟩
 ·have hlen : xs.length = ys.length := by omega
  refine sk <| thn <| sq <| sq <| rg <| ?_
  refine vl (aI rfl) <| nl <| thn <| bk <| ?_
  refine lp (σ := Nat) (fun i => [(0, v), (1, u), (5, .int .i64 (i : Int))]) (fun i w => i ≤ xs.length ∧ xs.take i = ys.take i ∧ K e w G L) (fun i => xs.length - i) 0 ⟨rfl, rfl, rfl, trivial⟩ ⟨Nat.zero_le _, by simp, hK⟩ ?_
  rintro i g w ⟨hi, ht, hK⟩
  refine sq <| sq <| rg <| ?_
  refine vl (mI rfl) <| vl mv <| vl (ln Try.underlying22 rfl hv.len) <| vl (lt rfl rfl) <| nl <| thn <| ?_
  refine cdP rfl (fun hc => ?_) (fun hc => ?_)
  ·refine sk <| thn <| sq <| bk <| sq <| ?_
   refine rgq (fun w => K _ w _ _) Ty.mixed (by kernel_rfl) (hK.drawn _) ?_
   refine qv (fun w hK => mv) <| ?_; refine qv (fun w hK => (mI rfl)) <| ?_; refine qv (fun w hK => (ixn1 Try.underlying22 Ty.s3 rfl hv.1 rfl (by first | omega | (simp only; omega)))) <| ?_; refine qldV Ty.o3 rfl (hv.at (by first | omega | (simp only; omega))) <| ?_; refine qv (fun w hK => mv) <| ?_; refine qv (fun w hK => (mI rfl)) <| ?_; refine qv (fun w hK => (ixn1 Try.underlying22 Ty.s3 rfl hu.1 rfl (by first | omega | (simp only; omega)))) <| ?_; refine qldV Ty.o3 rfl (hu.at (by first | omega | (simp only; omega))) <| ?_; refine qv (fun w hK => (ne rfl rfl)) <| ?_; refine qn <| ?_
   intro w hK
   refine thn <| ?_
   refine cdP rfl (fun hx => ?_) (fun hx => ?_)
   ·refine sq <| rg <| ?_
    refine vl (aB rfl) <| nl <| thn <| rt <| bkr <| thr <| thr <| bkr <| thr <| p1r (a := .bool _) rfl <| ?_
    exact ⟨by rw [decide_eq_false]; rintro rfl; exact hx rfl, hK⟩
   ·refine sk <| bkn <| thn <| rg <| ?_
    refine vl (mI rfl) <| vl (ad rfl rfl) <| vl (aI rfl) <| nl <| thn <| ?_
    exact ⟨i + 1, ⟨rfl, rfl, rfl, trivial⟩, ⟨by omega, by rw [List.take_succ_eq_append_getElem (by omega), List.take_succ_eq_append_getElem (by omega), ht, Decidable.not_not.1 hx], hK⟩, by omega⟩
  ·refine ex <| the <| the <| bkh <| thn <| sq <| rg <| ?_
   refine vl (aB rfl) <| nl <| thn <| rt <| p1r (a := .bool _) rfl <| ?_
   exact ⟨by rw [decide_eq_true]; rw [List.take_of_length_le (by omega), List.take_of_length_le (by omega)] at ht; exact ht, hK⟩

end
end Go.Proofs.Ytbkfnnifkdgbkaa