/- Contracts of the functions that copy, compare and mark slices of numbers. Conditions: those that each row states. -/
import Derived.Test.YtlpefeeadeocgaaSc
import Derived.Test.YtlpefeeadeocgaaMk
namespace Go.Proofs.Ytlpefeeadeocgaa
open Go Go.Ro

section
variable {e w : World} {G : View} {L : Own} {v u : Value} {xs ys : List Int}

theorem l1Has_c (hK : K e w G L) (hv : IntS G v xs) {n : Int} :
  Ret Try.prog 42 #[v, .int .i64 n] w (fun r w' => r = .bool (decide (n ∈ xs)) ∧ K e w' G L) := by
 have hle := hv.le
 refine enter1 (args := [v, .int .i64 n]) Try.func42 rfl rfl rfl rfl ?_
 refine sq <| rg <| ?_
 refine vl (aB rfl) <| nl <| thn <| sq <| sq <| rg <| vl (aI rfl) <| nl <| thn <| bk <| ?_
 refine lp (σ := Nat) (fun i => [(0, v), (1, .int .i64 n), (5, .int .i64 (i : Int))]) (fun i w => i ≤ xs.length ∧ n ∉ xs.take i ∧ K e w G L) (fun i => xs.length - i) 0 ⟨rfl, rfl, rfl, trivial⟩ ⟨Nat.zero_le _, by simp, hK⟩ ?_
 rintro i g w ⟨hi, hn, hK⟩
 refine sq <| sq <| rg <| ?_
 refine vl (mI rfl) <| vl mv <| vl (ln Try.underlying23 rfl hv.len) <| vl (lt rfl rfl) <| nl <| thn <| ?_
 refine cdP rfl (fun hc => ?_) (fun hc => ?_)
 ·refine sk <| thn <| sq <| bk <| sq <| rg <| ?_
  refine vl mv <| vl (mI rfl) <| vl (ixn1 Try.underlying23 Ty.s3 rfl hv.1 rfl (by first | omega | (simp only; omega))) <| vl (ldV hK Ty.o3 rfl (hv.at (by first | omega | (simp only; omega)))) <| vl (mI rfl) <| vl (eq rfl rfl) <| nl <| thn <| ?_
  refine cdP rfl (fun hx => ?_) (fun hx => ?_)
  ·refine sq <| rg <| ?_
   refine vl (aB rfl) <| nl <| thn <| rt <| bkr <| thr <| thr <| bkr <| thr <| p1r (a := .bool _) rfl <| ?_
   exact ⟨by rw [decide_eq_true]; rw [← hx]; exact List.getElem_mem _, hK⟩
  ·refine sk <| bkn <| thn <| rg <| ?_
   refine vl (mI rfl) <| vl (ad rfl rfl) <| vl (aI rfl) <| nl <| thn <| ?_
   exact ⟨i + 1, ⟨rfl, rfl, rfl, trivial⟩, ⟨by omega, by rw [List.take_succ_eq_append_getElem (by omega)]; grind, hK⟩, by omega⟩
 ·refine ex <| the <| the <| bkh <| thn <| sq <| rg <| ?_
  refine vl (aB rfl) <| nl <| thn <| rt <| p1r (a := .bool _) rfl <| ?_
  have : i = xs.length := by omega
  subst this
  exact ⟨by rw [decide_eq_false]; simpa using hn, hK⟩

end
end Go.Proofs.Ytlpefeeadeocgaa