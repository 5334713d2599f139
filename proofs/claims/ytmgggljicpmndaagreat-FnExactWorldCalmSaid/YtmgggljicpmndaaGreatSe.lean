/- Contracts of the functions that copy, compare and mark leases and scans. Conditions: those that each row states. -/
import Derived.Test.YtmgggljicpmndaaGreatSl
import Derived.Test.YtmgggljicpmndaaGreatIn
namespace Go.Proofs.YtmgggljicpmndaaGreat
open Go Go.Ro Tryz
section
variable {e w : World} {G : View} {L A : Own} {v u t t2 : Value} {xs ys ks ts us : List Int} {ls ms : List Ls} {n m k : Int}
theorem toLease_c (hK : K e w G L) {x : Ls} : Ret prog 58 #[.agg (lc x).toArray] w (fun r w' => r = .agg (lc x).toArray ∧ K e w' G L) := by
 refine enterG1 (args := [.agg (lc x).toArray]) func58 rfl rfl rfl rfl ?_
 refine sq <| rg <| ?_
 refine bx hK rfl rfl ?_
 intro b1 w hK
 refine al hK Ty.i78 rfl ?_
 intro b2 w hK
 refine nl <| thn <| sq <| rg <| ?_
 refine al hK Ty.i78 rfl ?_
 intro b3 w hK
 refine nl <| thn <| sq <| rg <| vl (fa underlying82 rfl Ty.z3 rfl) <| vl (ldO hK Ty.o3 2 rfl rfl rfl) <| vl (fa underlying78 rfl Ty.z3 rfl) <| ?_
 refine so hK Ty.i3 rfl 0 rfl rfl rfl rfl rfl ?_
 intro w hK
 refine nl <| thn <| sq <| rg <| vl (fa underlying82 rfl Ty.z3 rfl) <| vl (ldO hK Ty.o3 2 rfl rfl rfl) <| vl (fa underlying78 rfl Ty.z3 rfl) <| ?_
 refine so hK Ty.i3 rfl 0 rfl rfl rfl rfl rfl ?_
 intro w hK
 refine nl <| thn <| sq <| rg <| vl (fa underlying82 rfl Ty.z3 rfl) <| vl (ldO hK Ty.o3 2 rfl rfl rfl) <| vl (fa underlying78 rfl Ty.z3 rfl) <| ?_
 refine so hK Ty.i3 rfl 0 rfl rfl rfl rfl rfl ?_
 intro w hK
 refine nl <| thn <| sq <| rg <| vl (lsO hK Ty.a78 Ty.s78 0 rfl rfl rfl) <| ?_
 refine soS hK Ty.i78 1 rfl rfl rfl rfl rfl rfl ?_
 intro w hK
 refine nl <| thn <| rt <| pg1r (rvS hK Ty.a78 Ty.s78 1 rfl rfl rfl) <| ?_
 exact ⟨rfl, hK.drop1.drop1.drop1⟩
theorem eqLease_c (hK : K e w G L) {x y : Ls} : Ret prog 79 #[.agg (lc x).toArray, .agg (lc y).toArray] w (fun r w' => r = .bool (decide (x = y)) ∧ K e w' G L) := by
 refine enter1 (args := [.agg (lc x).toArray, .agg (lc y).toArray]) func79 rfl rfl rfl rfl ?_
 refine sq <| rg <| ?_
 refine bx hK rfl rfl ?_
 intro b2 w hK
 refine bx hK rfl rfl ?_
 intro b3 w hK
 refine vl (aB rfl) <| nl <| thn <| sq <| sq <| rg <| vl (fa underlying78 rfl Ty.z3 rfl) <| vl (ldO hK Ty.o3 1 rfl rfl rfl) <| vl (fa underlying78 rfl Ty.z3 rfl) <| vl (ldO hK Ty.o3 0 rfl rfl rfl) <| vl (ne rfl rfl) <| nl <| thn <| ?_
 refine cdP rfl (fun h1 => ?_) fun h1 => ?_
 ·refine sq <| rg <| ?_
  refine vl (aB rfl) <| nl <| thn <| rt <| thr <| p1r (a := .bool _) rfl <| ?_
  exact ⟨by rw [decide_eq_false]; rintro rfl; exact h1 rfl, hK.drop1.drop1⟩
 ·refine sk <| thn <| sq <| sq <| rg <| ?_
  refine vl (fa underlying78 rfl Ty.z3 rfl) <| vl (ldO hK Ty.o3 1 rfl rfl rfl) <| vl (fa underlying78 rfl Ty.z3 rfl) <| vl (ldO hK Ty.o3 0 rfl rfl rfl) <| vl (ne rfl rfl) <| nl <| thn <| ?_
  refine cdP rfl (fun h2 => ?_) fun h2 => ?_
  ·refine sq <| rg <| ?_
   refine vl (aB rfl) <| nl <| thn <| rt <| thr <| p1r (a := .bool _) rfl <| ?_
   exact ⟨by rw [decide_eq_false]; rintro rfl; exact h2 rfl, hK.drop1.drop1⟩
  ·refine sk <| thn <| sq <| sq <| rg <| ?_
   refine vl (fa underlying78 rfl Ty.z3 rfl) <| vl (ldO hK Ty.o3 1 rfl rfl rfl) <| vl (fa underlying78 rfl Ty.z3 rfl) <| vl (ldO hK Ty.o3 0 rfl rfl rfl) <| vl (ne rfl rfl) <| nl <| thn <| ?_
   refine cdP rfl (fun h3 => ?_) fun h3 => ?_
   ·refine sq <| rg <| ?_
    refine vl (aB rfl) <| nl <| thn <| rt <| thr <| p1r (a := .bool _) rfl <| ?_
    exact ⟨by rw [decide_eq_false]; rintro rfl; exact h3 rfl, hK.drop1.drop1⟩
   ·refine sk <| thn <| sq <| rg <| ?_
    refine vl (aB rfl) <| nl <| thn <| rt <| p1r (a := .bool _) rfl <| ?_
    exact ⟨by rw [decide_eq_true]; exact Prod.ext (Decidable.not_not.1 h1) (Prod.ext (Decidable.not_not.1 h2) (Decidable.not_not.1 h3)), hK.drop1.drop1⟩
theorem eqLeaseS_c (hK : K e w G L) (hv : LeaS G v ls) (hu : LeaS G u ms) :
  Ret prog 31 #[v, u] w (fun r w' => r = .bool (decide (ls = ms)) ∧ K e w' G L) := by
 have hle := hv.le
 refine enter1 (args := [v, u]) func31 rfl rfl rfl rfl ?_
 refine sq <| rg <| ?_
 refine vl (aB rfl) <| nl <| thn <| sq <| sq <| rg <| vl mv <| vl (ln underlying32 rfl hv.len) <| vl mv <| vl (ln underlying32 rfl hu.len) <| vl (ne rfl rfl) <| nl <| thn <| ?_
 refine cdP rfl (fun h => ?_) fun h => ?_
 ·refine sq <| rg <| ?_
  refine vl (aB rfl) <| nl <| thn <| rt <| thr <| p1r (a := .bool _) rfl <| ?_
  exact ⟨by rw [decide_eq_false]; rintro rfl; exact h rfl, hK⟩
 ·have hlen : ls.length = ms.length := by omega
  refine sk <| thn <| sq <| sq <| rg <| ?_
  refine vl (aI rfl) <| nl <| thn <| bk <| ?_
  refine lp (σ := Nat) (fun i => [(0, v), (1, u), (5, .int .i64 (i : Int))]) (fun i w => i ≤ ls.length ∧ ls.take i = ms.take i ∧ K e w G L) (fun i => ls.length - i) 0 ⟨rfl, rfl, rfl, trivial⟩ ⟨Nat.zero_le _, by simp, hK⟩ ?_
  rintro i g w ⟨hi, ht, hK⟩
  refine sq <| sq <| rg <| ?_
  refine vl (mI rfl) <| vl mv <| vl (ln underlying32 rfl hv.len) <| vl (lt rfl rfl) <| nl <| thn <| ?_
  refine cdP rfl (fun hc => ?_) fun hc => ?_
  ·have hi' : i < ls.length := by omega
   have hi2 : i < ms.length := by omega
   refine sk <| thn <| sq <| bk <| sq <| ?_
   refine rgq (fun w => K _ w _ _) Ty.mixed kr (hK.drawn _) ?_
   refine qv (fun w hK => mv) <| qv (fun w hK => (mI rfl)) <| qv (fun w hK => (ixn underlying32 Ty.s78 rfl hv.1 rfl om)) <| qv (fun w hK => (lsF hK Ty.a78 Ty.s78 rfl hv om)) <| qv (fun w hK => mv) <| qv (fun w hK => (mI rfl)) <| qv (fun w hK => (ixn underlying32 Ty.s78 rfl hu.1 rfl om)) <| qv (fun w hK => (lsF hK Ty.a78 Ty.s78 rfl hu om)) <| ?_
   refine qcl call79 rfl (fun w hK => eqLease_c hK) ?_
   refine qv (fun w hK => (nt rfl)) <| qn <| ?_
   intro w hK
   refine thn <| ?_
   refine cdP rfl (fun hx => ?_) fun hx => ?_
   ·refine sq <| rg <| ?_
    refine vl (aB rfl) <| nl <| thn <| rt <| bkr <| thr <| thr <| bkr <| thr <| p1r (a := .bool _) rfl <| ?_
    exact ⟨by rw [decide_eq_false]; rintro rfl; exact hx rfl, hK⟩
   ·have hxx : ls[i] = ms[i] := Decidable.not_not.1 hx
    refine sk <| bkn <| thn <| rg <| ?_
    refine vl (mI rfl) <| vl (ad rfl rfl) <| vl (aI rfl) <| nl <| thn <| ?_
    exact ⟨i + 1, ⟨rfl, rfl, rfl, trivial⟩, ⟨hi', by rw [List.take_succ_eq_append_getElem hi', List.take_succ_eq_append_getElem hi2, ht, hxx], hK⟩, by omega⟩
  ·refine ex <| the <| the <| bkh <| thn <| sq <| rg <| ?_
   refine vl (aB rfl) <| nl <| thn <| rt <| p1r (a := .bool _) rfl <| ?_
   exact ⟨by rw [decide_eq_true]; rw [List.take_of_length_le (by omega), List.take_of_length_le (by omega)] at ht; exact ht, hK⟩
theorem szLeaseS_c (hK : K e w G L) (hv : LeaS G v ls) {n : Int} (h0 : 0 ≤ n) (h1 : n ≤ 1048576) :
  Ret prog 12 #[v, .int .i64 n] w (fun r w' => (∃ k, r = .int .i64 k ∧ -1 ≤ k ∧ k ≤ n ∧ (0 ≤ k → k = n - ls.length)) ∧ K e w' G L) := by
 have hle := hv.le
 refine enter1 (args := [v, .int .i64 n]) func12 rfl rfl rfl rfl ?_
 refine sq <| rg <| ?_
 refine vl (aI rfl) <| nl <| thn <| sq <| rg <| vl (mI rfl) <| vl mv <| vl (ln underlying23 rfl hv.len) <| vl (sb rfl rfl) <| vl (aI rfl) <| nl <| thn <| sq <| sq <| rg <| vl (mI rfl) <| vl (lt rfl rfl) <| nl <| thn <| ?_
 refine cdP rfl (fun h => ?_) fun h => ?_
 ·refine sq <| rg <| ?_
  refine vl (aI rfl) <| nl <| thn <| rt <| thr <| p1r (a := .int _ _) rfl <| ?_
  exact ⟨⟨_, rfl, by omega, by omega, by omega⟩, hK⟩
 ·refine sk <| thn <| sq <| rg <| ?_
  refine vl (mI rfl) <| vl (aI rfl) <| nl <| thn <| rt <| p1r (a := .int _ _) rfl <| ?_
  exact ⟨⟨_, rfl, by omega, by omega, by omega⟩, hK⟩
theorem szScan_c (hK : K e w G L) (ht : IntS G t ts) {n m : Int} (h0 : 0 ≤ m) (h1 : m ≤ 1048576) :
  Ret prog 14 #[.agg #[.int .i64 n, t], .int .i64 m] w (fun r w' => (∃ k, r = .int .i64 k ∧ -1 ≤ k ∧ k ≤ m ∧ (0 ≤ k → k = m - ts.length)) ∧ K e w' G L) := by
 refine enter1 (args := [.agg #[.int .i64 n, t], .int .i64 m]) func14 rfl rfl rfl rfl ?_
 refine sq <| rg <| ?_
 refine bx hK rfl rfl ?_
 intro b2 w hK
 refine vl (aI rfl) <| nl <| thn <| sq <| rg <| vl (fa underlying27 rfl Ty.z25 rfl) <| vl (ldO hK Ty.o25 0 rfl rfl rfl) <| vl (mI rfl) <| ?_
 refine cl call15 rfl (szIntS_c hK ht h0 h1) ?_
 rintro _ w ⟨⟨k, rfl, g1, g2, g3⟩, hK⟩
 refine vl (aI rfl) <| nl <| thn <| sq <| sq <| rg <| vl (mI rfl) <| vl (lt rfl rfl) <| nl <| thn <| ?_
 refine cdP rfl (fun h => ?_) fun h => ?_
 ·refine sq <| rg <| ?_
  refine vl (aI rfl) <| nl <| thn <| rt <| thr <| p1r (a := .int _ _) rfl <| ?_
  exact ⟨⟨_, rfl, by omega, by omega, by omega⟩, hK.drop1⟩
 ·refine sk <| thn <| sq <| rg <| ?_
  refine vl (mI rfl) <| vl (aI rfl) <| nl <| thn <| rt <| p1r (a := .int _ _) rfl <| ?_
  exact ⟨⟨_, rfl, by omega, by omega, by omega⟩, hK.drop1⟩
theorem toLeaseS_c (hK : K e w G L) (hv : LeaS G v ls) (hl : ls.length ≤ 1048576) :
  Ret prog 22 #[v] w (fun r w' => ∃ A, OS 3 78 r ls.length (ls.flatMap lc) A ∧ K e w' G (A ++ L)) := by
 refine enter1 (args := [v]) func22 rfl rfl rfl rfl ?_
 refine sq <| rg <| ?_
 refine vl asg <| nl <| thn <| sq <| rg <| vl mv <| vl (ln underlying23 rfl hv.len) <| ?_
 refine mks hK underlying32 Ty.i78 rfl rfl rfl rfl rfl om rfl ?_
 intro b7 w ho7 hK
 refine vl asg <| nl <| thn <| sq <| sq <| rg <| vl (aI rfl) <| nl <| thn <| bk <| ?_
 rw [show ([.int .i64 0, .int .i64 0, .int .i64 0] : List Value) = lc (0, 0, 0) from rfl, flat_rep] at hK ho7
 refine lp (σ := Nat × Own) (fun s => [(0, v), (3, .slice (some ⟨b7, 0, none⟩) ls.length ls.length), (4, .int .i64 (s.1 : Int))]) (fun s w => s.1 ≤ ls.length ∧ OS 3 78 (.slice (some ⟨b7, 0, none⟩) ls.length ls.length) ls.length ((ls.take s.1 ++ List.replicate (ls.length - s.1) (0, 0, 0)).flatMap lc) s.2 ∧ K e w G (s.2 ++ L)) (fun s => ls.length - s.1) (0, [_]) ⟨rfl, rfl, rfl, trivial⟩ ⟨Nat.zero_le _, by simpa using ho7, by simpa using hK⟩ ?_
 rintro ⟨i, A⟩ g w ⟨hi, ho, hK⟩
 simp only at hi ho hK
 refine sq <| sq <| rg <| ?_
 refine vl (mI rfl) <| vl mv <| vl (ln underlying23 rfl hv.len) <| vl (lt rfl rfl) <| nl <| thn <| ?_
 refine cdP rfl (fun hc => ?_) fun hc => ?_
 ·have hi' : i < ls.length := by simp only at hc; omega
  refine sk <| thn <| sq <| bk <| rg <| ?_
  refine vl mv <| vl (mI rfl) <| vl mv <| vl (mI rfl) <| vl (ixn underlying23 Ty.s82 rfl hv.1 rfl om) <| vl (lsF hK Ty.a82 Ty.s82 rfl hv om) <| ?_
  refine cl call58 rfl (toLease_c hK) ?_
  rintro _ w ⟨rfl, hK⟩
  refine vl (ixn underlying32 Ty.s78 rfl ho.slw rfl om) <| ?_
  refine osSetS (i := i) (us := lc ls[i]) hK ho om Ty.i78 rfl rfl rfl rfl fun A' w ho hK => ?_
  rw [flat_sets (c := lc) (sz := 3) (fun _ => rfl) _ i ls[i] (by rw [List.length_append, List.length_take, List.length_replicate]; omega)] at ho
  have hs := set_next (us := ls.take i) (z := ((0, 0, 0) : Ls)) (u := ls[i]) (i := i) (m := ls.length) (by rw [List.length_take]; omega) hi'
  rw [Nat.zero_add] at hs
  rw [hs, ← List.take_succ_eq_append_getElem hi'] at ho
  refine nl <| bkn <| thn <| rg <| vl (mI rfl) <| vl (ad rfl rfl) <| vl (aI rfl) <| nl <| thn <| ?_
  exact ⟨(i + 1, A'), ⟨rfl, rfl, rfl, trivial⟩, ⟨hi', ho, hK⟩, by simp only; omega⟩
 ·have : i = ls.length := by simp only at hc; omega
  subst this
  refine ex <| the <| the <| bkh <| thn <| sq <| rg <| ?_
  refine vl mv <| vl asg <| nl <| thn <| rt <| p1r (a := _) rfl <| ?_
  have ho' : OS 3 78 (.slice (some ⟨b7, 0, none⟩) ls.length ls.length) ls.length (ls.flatMap lc) A := by simpa using ho
  exact ⟨A, ho', hK⟩
theorem toLeaseS_v (hK : K e w G L) (hv : LeaS G v ls) (hl : ls.length ≤ 1048576) :
  Ret prog 22 #[v] w (fun r w' => ∃ G', VLe G G' ∧ LeaS G' r ls ∧ K e w' G' L) :=
 (toLeaseS_c hK hv hl).mono fun _ _ ⟨_, ho, hK⟩ => K.pubE (fun _ => rfl) hK ho
theorem toIntS_o (hK : K e w G L) (hv : IntS G v xs) (hl : xs.length ≤ 1048576) :
  Ret prog 25 #[v] w (fun r w' => ∃ A, OS 1 3 r xs.length (ints xs) A ∧ K e w' G (A ++ L)) :=
 (toIntS_c hK hv hl).mono fun _ _ ⟨_, hr, hK⟩ => ⟨[_], hr ▸ OS.lit (by simp) (by omega), hK⟩
theorem toScan_c (hK : K e w G L) (ht : IntS G t ts) (hl : ts.length ≤ 1048576) :
  Ret prog 24 #[.agg #[.int .i64 n, t]] w (fun r w' => ∃ t' A, r = .agg #[.int .i64 n, t'] ∧ OS 1 3 t' ts.length (ints ts) A ∧ K e w' G (A ++ L)) := by
 refine enterG1 (args := [.agg #[.int .i64 n, t]]) func24 rfl rfl rfl rfl ?_
 refine sq <| rg <| ?_
 refine bx hK rfl rfl ?_
 intro b1 w hK
 refine al hK Ty.i34 rfl ?_
 intro b2 w hK
 refine nl <| thn <| sq <| rg <| ?_
 refine al hK Ty.i34 rfl ?_
 intro b3 w hK
 refine nl <| thn <| sq <| rg <| vl (fa underlying27 rfl Ty.z3 rfl) <| vl (ldO hK Ty.o3 2 rfl rfl rfl) <| vl (fa underlying34 rfl Ty.z3 rfl) <| ?_
 refine so hK Ty.i3 rfl 0 rfl rfl rfl rfl rfl ?_
 intro w hK
 refine nl <| thn <| sq <| rg <| vl (fa underlying27 rfl Ty.z25 rfl) <| vl (ldO hK Ty.o25 2 rfl rfl rfl) <| ?_
 refine cl call25 rfl (toIntS_o hK ht hl) ?_
 rintro t9 w ⟨A, ho, hK⟩
 replace hK := K.mid (B := [_, _, _]) hK
 refine vl (fa underlying34 rfl Ty.z25 rfl) <| ?_
 refine so hK Ty.i25 rfl 0 rfl rfl rfl ho.one rfl ?_
 intro w hK
 refine nl <| thn <| sq <| rg <| vl (lsO hK Ty.a34 Ty.s34 0 rfl rfl rfl) <| ?_
 refine soS hK Ty.i34 1 rfl rfl rfl rfl (allc rfl (allc ho.one rfl)) rfl ?_
 intro w hK
 refine nl <| thn <| rt <| pg1r (rvS hK Ty.a34 Ty.s34 1 rfl rfl rfl) <| ?_
 exact ⟨_, A, rfl, ho, hK.drop1.drop1.drop1⟩
theorem toScan_v (hK : K e w G L) (ht : IntS G t ts) (hl : ts.length ≤ 1048576) :
  Ret prog 24 #[.agg #[.int .i64 n, t]] w (fun r w' => ∃ G' t', r = .agg #[.int .i64 n, t'] ∧ VLe G G' ∧ IntS G' t' ts ∧ K e w' G' L) :=
 (toScan_c hK ht hl).mono fun _ _ ⟨t', _, hr, ho, hK⟩ => let ⟨G', h1, h2, h3⟩ := hK.pubO ho; ⟨G', t', hr, h1, h2, h3⟩
end
end Go.Proofs.YtmgggljicpmndaaGreat
