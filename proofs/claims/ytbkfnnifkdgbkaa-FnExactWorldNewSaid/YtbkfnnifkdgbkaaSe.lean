/- Contracts of the functions that copy, compare and mark leases and scans. Conditions: those that each row states. -/
import Derived.Test.YtbkfnnifkdgbkaaSl
import Derived.Test.YtbkfnnifkdgbkaaIn
namespace Go.Proofs.Ytbkfnnifkdgbkaa
open Go Go.Ro

section
variable {e w : World} {G : View} {L A : Own} {v u t t2 : Value} {xs ys ks ts us : List Int} {ls ms : List Ls} {n m k : Int}

theorem eqLease_c (hK : K e w G L) {x y : Ls} : Ret Try.prog 35 #[.agg (lc x).toArray, .agg (lc y).toArray] w (fun r w' => r = .bool (decide (x = y)) ∧ K e w' G L) := by
 refine enter1 (args := [.agg (lc x).toArray, .agg (lc y).toArray]) Try.func35 rfl rfl rfl rfl ?_
 refine sq <| rg <| ?_
 refine bx hK rfl rfl ?_
 intro b2 w hK
 refine bx hK rfl rfl ?_
 intro b3 w hK
 refine vl (aB rfl) <| nl <| thn <| sq <| sq <| rg <| vl (fa Try.underlying53 rfl Ty.z3 rfl) <| vl (ldO hK Ty.o3 1 rfl rfl rfl) <| vl (fa Try.underlying53 rfl Ty.z3 rfl) <| vl (ldO hK Ty.o3 0 rfl rfl rfl) <| vl (ne rfl rfl) <| nl <| thn <| ?_
 refine cdP rfl (fun h1 => ?_) (fun h1 => ?_)
 ·refine sq <| rg <| ?_
  refine vl (aB rfl) <| nl <| thn <| rt <| thr <| p1r (a := .bool _) rfl <| ?_
  exact ⟨by rw [decide_eq_false]; rintro rfl; exact h1 rfl, hK.drop1.drop1⟩
 ·refine sk <| thn <| sq <| sq <| rg <| ?_
  refine vl (fa Try.underlying53 rfl Ty.z3 rfl) <| vl (ldO hK Ty.o3 1 rfl rfl rfl) <| vl (fa Try.underlying53 rfl Ty.z3 rfl) <| vl (ldO hK Ty.o3 0 rfl rfl rfl) <| vl (ne rfl rfl) <| nl <| thn <| ?_
  refine cdP rfl (fun h2 => ?_) (fun h2 => ?_)
  ·refine sq <| rg <| ?_
   refine vl (aB rfl) <| nl <| thn <| rt <| thr <| p1r (a := .bool _) rfl <| ?_
   exact ⟨by rw [decide_eq_false]; rintro rfl; exact h2 rfl, hK.drop1.drop1⟩
  ·refine sk <| thn <| sq <| sq <| rg <| ?_
   refine vl (fa Try.underlying53 rfl Ty.z3 rfl) <| vl (ldO hK Ty.o3 1 rfl rfl rfl) <| vl (fa Try.underlying53 rfl Ty.z3 rfl) <| vl (ldO hK Ty.o3 0 rfl rfl rfl) <| vl (ne rfl rfl) <| nl <| thn <| ?_
   refine cdP rfl (fun h3 => ?_) (fun h3 => ?_)
   ·refine sq <| rg <| ?_
    refine vl (aB rfl) <| nl <| thn <| rt <| thr <| p1r (a := .bool _) rfl <| ?_
    exact ⟨by rw [decide_eq_false]; rintro rfl; exact h3 rfl, hK.drop1.drop1⟩
   ·refine sk <| thn <| sq <| rg <| ?_
    refine vl (aB rfl) <| nl <| thn <| rt <| p1r (a := .bool _) rfl <| ?_
    exact ⟨by rw [decide_eq_true]; exact Prod.ext (Decidable.not_not.1 h1) (Prod.ext (Decidable.not_not.1 h2) (Decidable.not_not.1 h3)), hK.drop1.drop1⟩

theorem eqLeaseS_c (hK : K e w G L) (hv : LeaS G v ls) (hu : LeaS G u ms) :
  Ret Try.prog 18 #[v, u] w (fun r w' => r = .bool (decide (ls = ms)) ∧ K e w' G L) := by
 have hle := hv.le
 refine enter1 (args := [v, u]) Try.func18 rfl rfl rfl rfl ?_
 refine sq <| rg <| ?_
 refine vl (aB rfl) <| nl <| thn <| sq <| sq <| rg <| vl mv <| vl (ln Try.underlying24 rfl hv.len) <| vl mv <| vl (ln Try.underlying24 rfl hu.len) <| vl (ne rfl rfl) <| nl <| thn <| ?_
 refine cdP rfl (fun h => ?_) (fun h => ?_)
 ·refine sq <| rg <| ?_
  refine vl (aB rfl) <| nl <| thn <| rt <| thr <| p1r (a := .bool _) rfl <| ?_
  exact ⟨by rw [decide_eq_false]; rintro rfl; exact h rfl, hK⟩
 ·have hlen : ls.length = ms.length := by omega
  refine sk <| thn <| sq <| sq <| rg <| ?_
  refine vl (aI rfl) <| nl <| thn <| bk <| ?_
  refine lp (σ := Nat) (fun i => [(0, v), (1, u), (5, .int .i64 (i : Int))]) (fun i w => i ≤ ls.length ∧ ls.take i = ms.take i ∧ K e w G L) (fun i => ls.length - i) 0 ⟨rfl, rfl, rfl, trivial⟩ ⟨Nat.zero_le _, by simp, hK⟩ ?_
  rintro i g w ⟨hi, ht, hK⟩
  refine sq <| sq <| rg <| ?_
  refine vl (mI rfl) <| vl mv <| vl (ln Try.underlying24 rfl hv.len) <| vl (lt rfl rfl) <| nl <| thn <| ?_
  refine cdP rfl (fun hc => ?_) (fun hc => ?_)
  ·have hi' : i < ls.length := by omega
   have hi2 : i < ms.length := by omega
   refine sk <| thn <| sq <| bk <| sq <| ?_
   refine rgq (fun w => K _ w _ _) Ty.mixed kr (hK.drawn _) ?_
   refine qv (fun w hK => mv) <| ?_; refine qv (fun w hK => (mI rfl)) <| ?_; refine qv (fun w hK => (ixn Try.underlying24 Ty.s53 rfl hv.1 rfl om)) <| ?_; refine qv (fun w hK => (lsF hK Ty.a53 Ty.s53 rfl hv om)) <| ?_; refine qv (fun w hK => mv) <| ?_; refine qv (fun w hK => (mI rfl)) <| ?_; refine qv (fun w hK => (ixn Try.underlying24 Ty.s53 rfl hu.1 rfl om)) <| ?_; refine qv (fun w hK => (lsF hK Ty.a53 Ty.s53 rfl hu om)) <| ?_
   refine qcl Try.call35 rfl (fun w hK => eqLease_c hK) ?_
   refine qv (fun w hK => (nt rfl)) <| ?_; refine qn <| ?_
   intro w hK
   refine thn <| ?_
   refine cdP rfl (fun hx => ?_) (fun hx => ?_)
   ·refine sq <| rg <| ?_
    refine vl (aB rfl) <| nl <| thn <| rt <| bkr <| thr <| thr <| bkr <| thr <| p1r (a := .bool _) rfl <| ?_
    exact ⟨by rw [decide_eq_false]; rintro rfl; exact hx rfl, hK⟩
   ·have hxx : ls[i] = ms[i] := Decidable.not_not.1 hx
    refine sk <| bkn <| thn <| rg <| ?_
    refine vl (mI rfl) <| vl (ad rfl rfl) <| vl (aI rfl) <| nl <| thn <| ?_
    exact ⟨i + 1, ⟨rfl, rfl, rfl, trivial⟩, ⟨hi', by rw [List.take_succ_eq_append_getElem hi', List.take_succ_eq_append_getElem hi2, ht, hxx], hK⟩, by omega⟩
  ·refine ex <| the <| the <| bkh <| thn <| sq <| rg <| ?_
   refine vl (aB rfl) <| nl <| thn <| rt <| p1r (a := .bool _) rfl <| ?_
   exact ⟨by rw [decide_eq_true]; rw [List.take_of_length_le (by omega), List.take_of_length_le (by omega)] at ht; exact ht, hK⟩
theorem eqIntS_o {t0 : Nat} (hK : K e w G (A ++ L)) (ho : OS 1 t0 v xs.length (ints xs) A) (hu : IntS G u ys) :
  Ret Try.prog 8 #[v, u] w (fun r w' => r = .bool (decide (xs = ys)) ∧ K e w' G (A ++ L)) :=
 Ret.own hK fun hK' => eqIntS_c hK' ho.ints (hu.mono hK.addV_le)

theorem toIntS_o (hK : K e w G L) (hv : IntS G v xs) (hl : xs.length ≤ 1048576) :
  Ret Try.prog 5 #[v] w (fun r w' => ∃ A, OS 1 3 r xs.length (ints xs) A ∧ K e w' G (A ++ L)) :=
 (toIntS_c hK hv hl).mono fun _ _ ⟨_, hr, hK⟩ => ⟨[_], hr ▸ OS.lit (by simp) (by omega), hK⟩
theorem markIntS_c (hK : K e w G (A ++ L)) (ho : OS 1 3 v xs.length (ints xs) A) (hl : xs.length ≤ 1048576) (h0 : 0 ≤ k) (h1 : k ≤ 1000000000) :
  Ret Try.prog 9 #[v, .int .i64 k] w (fun r w' => r = .int .i64 (k + xs.length) ∧ ∃ A', OS 1 3 v xs.length (ints (marks k xs.length)) A' ∧ K e w' G (A' ++ L)) := by
 refine enter1 (args := [v, .int .i64 k]) Try.func9 rfl rfl rfl rfl ?_
 refine sq <| rg <| ?_
 refine vl (aI rfl) <| nl <| thn <| sq <| sq <| rg <| vl (aI rfl) <| nl <| thn <| bk <| ?_
 refine lp (σ := Nat × Own) (fun s => [(0, v), (1, .int .i64 (k + (s.1 : Int))), (5, .int .i64 (s.1 : Int))]) (fun s w => s.1 ≤ xs.length ∧ OS 1 3 v xs.length (ints (marks k s.1 ++ xs.drop s.1)) s.2 ∧ K e w G (s.2 ++ L)) (fun s => xs.length - s.1) (0, A) ⟨rfl, (by show Value.int .i64 k = Value.int .i64 (k + ((0 : Nat) : Int)); simp), rfl, trivial⟩ ⟨Nat.zero_le _, by simpa [marks] using ho, hK⟩ ?_
 rintro ⟨i, A⟩ g w ⟨hi, ho, hK⟩
 simp only at hi ho hK
 refine sq <| sq <| rg <| ?_
 refine vl (mI rfl) <| vl mv <| vl (ln Try.underlying22 rfl ho.len) <| vl (lt rfl rfl) <| nl <| thn <| ?_
 refine cdP rfl (fun hc => ?_) (fun hc => ?_)
 ·have hi' : i < xs.length := by simp only at hc; omega
  refine sk <| thn <| sq <| bk <| sq <| rg <| ?_
  refine vl mv <| vl (mI rfl) <| vl (mI rfl) <| vl (ixn1 Try.underlying22 Ty.s3 rfl ho.slw rfl om) <| ?_
  refine osSet (i := i) (u := .int .i64 (k + (i : Int))) hK ho om Ty.i3 rfl rfl rfl rfl fun A' w ho hK => ?_
  rw [ints_set, marks_set (m := xs.length) rfl hi'] at ho
  refine nl <| thn <| rg <| vl (mI rfl) <| vl (ad rfl rfl) <| vl (aI rfl) <| nl <| bkn <| thn <| rg <| vl (mI rfl) <| vl (ad rfl rfl) <| vl (aI rfl) <| nl <| thn <| ?_
  refine ⟨(i + 1, A'), ⟨rfl, ?_, rfl, trivial⟩, ⟨hi', ho, hK⟩, by simp only; omega⟩
  show Value.int .i64 (k + (i : Int) + 1) = Value.int .i64 (k + ((i + 1 : Nat) : Int))
  congr 1; omega
 ·have : i = xs.length := by simp only at hc; omega
  subst this
  refine ex <| the <| the <| bkh <| thn <| sq <| rg <| ?_
  refine vl (mI rfl) <| vl (aI rfl) <| nl <| thn <| rt <| p1r (a := .int _ _) rfl <| ?_
  exact ⟨rfl, A, by simpa using ho, hK⟩

end
end Go.Proofs.Ytbkfnnifkdgbkaa
