/- Contracts of the functions on scans. Contracts of the steps of a scan and of whole scans. Conditions: those that each row states. -/
import Derived.Test.YtmgggljicpmndaaGreatSn
namespace Go.Proofs.YtmgggljicpmndaaGreat
open Go Go.Ro Tryz
section
variable {e w : World} {G : View} {L A : Own} {v u t : Value} {xs ys ks ts : List Int} {ls : List Ls} {n : Int}
theorem implScanValid_c (hK : K e w G L) (ht : IntS G t ts) : Ret prog 64 #[.agg #[.int .i64 n, t]] w (fun r w' => r = .bool (dec (SnOk (n, ts))) ∧ K e w' G L) := by
 have hle := ht.le
 refine enter1 (args := [.agg #[.int .i64 n, t]]) func64 rfl rfl rfl rfl ?_
 refine sq <| rg <| ?_
 refine bx hK rfl rfl ?_
 intro b1 w hK
 refine vl (aB rfl) <| nl <| thn <| sq <| ?_
 refine rgq (fun w => K _ w _ _) Ty.mixed kr (hK.drawn _) ?_
 refine qv (fun w hK => (fa underlying34 rfl Ty.z3 rfl)) <| qldO Ty.o3 0 rfl rfl rfl <| ?_
 refine qcl call68 rfl (fun w hK => inRange_c (C := fun w => K _ w _ _) hK) ?_
 refine qv (fun w hK => (mB rfl)) <| ?_
 refine qsplP (t := 6) rfl (fun h1 => ?_) fun h1 => ?_
 ·refine qgy rfl <| qv (fun w hK => (fa underlying34 rfl Ty.z25 rfl)) <| qgy rfl <| qldO Ty.o25 0 rfl rfl rfl <| qgy rfl <| ?_
  refine qcl call65 rfl (fun w hK => ascendingPositions_c hK (by assumption)) ?_
  refine qv (fun w hK => (pk rfl)) <| qv (fun w hK => (mB rfl)) <| ?_
  refine qspl (t := 11) rfl (fun h2 => ?_) fun h2 => ?_
  ·have h2' := of_dec h2
   refine qgy rfl <| qv (fun w hK => (fa underlying34 rfl Ty.z25 rfl)) <| qgy rfl <| qldO Ty.o25 0 rfl rfl rfl <| qgy rfl <| qv (fun w hK => (ln underlying25 rfl ht.len)) <| qgy rfl <| qv (fun w hK => (eq rfl rfl)) <| qgy rfl <| qv (fun w hK => (mB rfl)) <| ?_
   refine qsplP (t := 16) rfl (fun h3 => ?_) fun h3 => ?_
   ·have h3' : ts = [] := List.eq_nil_of_length_eq_zero (by omega)
    subst h3'
    refine qgn rfl <| qgn rfl <| qgn rfl <| qgn rfl <| qgn rfl <| qgn rfl <| qgn rfl <| qgn rfl <| qgn rfl <| qgn rfl <| qgn rfl <| qgy rfl <| qv (fun w hK => (pk rfl)) <| qv (fun w hK => (pk rfl)) <| qv (fun w hK => (aB rfl)) <| qn <| ?_
    intro w hK
    refine thn <| rt <| p1r (a := .bool _) rfl <| ?_
    exact ⟨by rw [dec_t ⟨h1, h2', by simp⟩], hK.drop1⟩
   ·refine qgy rfl <| qv (fun w hK => (fa underlying34 rfl Ty.z25 rfl)) <| qgy rfl <| qldO Ty.o25 0 rfl rfl rfl <| qgy rfl <| qv (fun w hK => (fa underlying34 rfl Ty.z25 rfl)) <| qgy rfl <| qldO Ty.o25 0 rfl rfl rfl <| qgy rfl <| qv (fun w hK => (ln underlying25 rfl ht.len)) <| qgy rfl <| qv (fun w hK => (sb rfl rfl)) <| qgy rfl <| qv (fun w hK => (ixm1 (m := ts.length - 1) underlying25 Ty.s3 rfl ht.1 rfl om om)) <| qgy rfl <| qldV Ty.o3 rfl (ht.at om) <| qgy rfl <| qv (fun w hK => (fa underlying34 rfl Ty.z3 rfl)) <| qgy rfl <| qldO Ty.o3 0 rfl rfl rfl <| qgy rfl <| qv (fun w hK => (lt rfl rfl)) <| qgy rfl <| qv (fun w hK => (pk rfl)) <| qv (fun w hK => (pk rfl)) <| qv (fun w hK => (aB rfl)) <| qn <| ?_
    intro w hK
    refine thn <| rt <| p1r (a := .bool _) rfl <| ?_
    refine ⟨?_, hK.drop1⟩
    rw [← dec_dec]
    congr 1
    exact dec_congr ⟨fun h => ⟨h1, h2', sn_last (ts := ts) h2' (show 0 < ts.length by omega) h⟩, fun h => h.2.2 _ (List.getElem_mem _)⟩
  ·refine qgn rfl <| qgn rfl <| qgn rfl <| qgn rfl <| qgn rfl <| qgu rfl <| qgu rfl <| qgu rfl <| qgu rfl <| qgu rfl <| qgu rfl <| qgu rfl <| qgu rfl <| qgu rfl <| qgu rfl <| qgu rfl <| qgn rfl <| qv (fun w hK => (pk rfl)) <| qv (fun w hK => (aB rfl)) <| qn <| ?_
   intro w hK
   refine thn <| rt <| p1r (a := .bool _) rfl <| ?_
   exact ⟨by rw [dec_f]; intro h; exact not_dec h2 h.2.1, hK.drop1⟩
 ·refine qgn rfl <| qgn rfl <| qgn rfl <| qv (fun w hK => (pk rfl)) <| qv (fun w hK => (mB rfl)) <| qgn rfl <| qgn rfl <| qgn rfl <| qgn rfl <| qgn rfl <| qgu rfl <| qgu rfl <| qgu rfl <| qgu rfl <| qgu rfl <| qgu rfl <| qgu rfl <| qgu rfl <| qgu rfl <| qgu rfl <| qgu rfl <| qgn rfl <| qv (fun w hK => (pk rfl)) <| qv (fun w hK => (aB rfl)) <| qn <| ?_
  intro w hK
  refine thn <| rt <| p1r (a := .bool _) rfl <| ?_
  exact ⟨by rw [dec_f]; intro h; exact h1 h.1, hK.drop1⟩
theorem specScanValid_c (hK : K e w G L) (ht : IntS G t ts) : Ret prog 50 #[.agg #[.int .i64 n, t]] w (fun r w' => r = .bool (dec (SnOk (n, ts))) ∧ K e w' G L) := by
 have hle := ht.le
 refine enter1 (args := [.agg #[.int .i64 n, t]]) func50 rfl rfl rfl rfl ?_
 refine sq <| rg <| ?_
 refine bx hK rfl rfl ?_
 intro b1 w hK
 refine vl (aB rfl) <| nl <| thn <| sq <| sq <| rg <| vl (aI rfl) <| nl <| thn <| bk <| ?_
 refine lp (σ := Nat) (fun i => [(1, .pointer (some ⟨b1, 0, none⟩)), (3, .int .i64 (i : Int))]) (fun i w => i ≤ ts.length ∧ (∀ x ∈ ts.take i, x < n) ∧ K e w G ((b1, row [.int .i64 n, t] 34) :: L)) (fun i => ts.length - i) 0 ⟨rfl, rfl, trivial⟩ ⟨Nat.zero_le _, by simp, hK⟩ ?_
 rintro i g w ⟨hi, ha, hK⟩
 refine sq <| sq <| rg <| ?_
 refine vl (mI rfl) <| vl (fa underlying34 rfl Ty.z25 rfl) <| vl (ldO hK Ty.o25 0 rfl rfl rfl) <| vl (ln underlying25 rfl ht.len) <| vl (lt rfl rfl) <| nl <| thn <| ?_
 refine cdP rfl (fun hc => ?_) fun hc => ?_
 ·have hi' : i < ts.length := by omega
  refine sk <| thn <| sq <| bk <| sq <| ?_
  refine rgq (fun w => K _ w _ _) Ty.mixed kr (hK.drawn _) ?_
  refine qv (fun w hK => (fa underlying34 rfl Ty.z25 rfl)) <| qldO Ty.o25 0 rfl rfl rfl <| qv (fun w hK => (mI rfl)) <| qv (fun w hK => (ixn1 underlying25 Ty.s3 rfl ht.1 rfl om)) <| qldV Ty.o3 rfl (ht.at om) <| qv (fun w hK => (fa underlying34 rfl Ty.z3 rfl)) <| qldO Ty.o3 0 rfl rfl rfl <| qv (fun w hK => (ge rfl rfl)) <| qn <| ?_
  intro w hK
  refine thn <| ?_
  refine cdP rfl (fun h1 => ?_) fun h1 => ?_
  ·refine sq <| rg <| ?_
   refine vl (aB rfl) <| nl <| thn <| rt <| bkr <| thr <| thr <| bkr <| thr <| p1r (a := .bool _) rfl <| ?_
   exact ⟨by rw [dec_f]; intro h; have := h.2.2 _ (List.getElem_mem hi'); simp at this; omega, hK.drop1⟩
  ·refine sk <| bkn <| thn <| rg <| ?_
   refine vl (mI rfl) <| vl (ad rfl rfl) <| vl (aI rfl) <| nl <| thn <| ?_
   exact ⟨i + 1, ⟨rfl, rfl, trivial⟩, ⟨hi', all_snoc hi' ha (by omega), hK⟩, by omega⟩
 ·have hi' : i = ts.length := by omega
  subst hi'
  rw [List.take_length] at ha
  refine ex <| the <| the <| bkh <| thn <| sq <| rg <| ?_
  refine vl (fa underlying34 rfl Ty.z3 rfl) <| vl (ldO hK Ty.o3 0 rfl rfl rfl) <| ?_
  refine cl call81 rfl (l6In_c (C := fun w => K _ w _ _) hK) ?_
  rintro _ w ⟨rfl, hK⟩
  refine vl (mB rfl) <| ?_
  refine splP (t := 22) rfl (fun h1 => ?_) fun h1 => ?_
  ·refine gy rfl <| vl (fa underlying34 rfl Ty.z25 rfl) <| gy rfl <| vl (ldO hK Ty.o25 0 rfl rfl rfl) <| gy rfl <| ?_
   refine cl call51 rfl (l1Nodes_c hK (by assumption)) ?_
   rintro _ w ⟨rfl, hK⟩
   refine vl (pk rfl) <| vl (aB rfl) <| nl <| thn <| rt <| p1r (a := .bool _) rfl <| ?_
   refine ⟨?_, hK.drop1⟩
   congr 1
   exact dec_congr ⟨fun h => ⟨h1, h, ha⟩, fun h => h.2.1⟩
  ·refine gn rfl <| gn rfl <| gn rfl <| vl (pk rfl) <| vl (aB rfl) <| nl <| thn <| rt <| p1r (a := .bool _) rfl <| ?_
   exact ⟨by rw [dec_f]; intro h; exact h1 h.1, hK.drop1⟩
theorem clone_c (hK : K e w G L) (hv : IntS G v xs) (hle : xs.length ≤ 1000000000) :
  Ret prog 74 #[v] w (fun r w' => ∃ A, OS 1 3 r xs.length (ints xs) A ∧ K e w' G (A ++ L)) := by
 refine enter1 (args := [v]) func74 rfl rfl rfl rfl ?_
 refine sq <| rg <| ?_
 refine vl asg <| nl <| thn <| sq <| sq <| rg <| vl mv <| vl (eqSn underlying25 rfl hv.len rfl) <| nl <| thn <| ?_
 refine cdB rfl (fun h => ?_) fun h => ?_
 ·have hx : xs = [] := List.eq_nil_of_length_eq_zero (hv.1.nil_len h)
  subst hx
  refine sq <| rg <| ?_
  refine vl asg <| nl <| thn <| rt <| thr <| p1r (a := _) rfl <| ?_
  exact ⟨[], OS.nil _ _, hK⟩
 ·refine sk <| thn <| sq <| rg <| ?_
  refine bs0 hK underlying25 Ty.i3 ?_
  intro b5 w hK
  refine vl mv <| ?_
  refine apI (xs := []) (ys := xs) hK underlying25 Ty.i3 rfl rfl OS.none rfl hv (by simp; omega) fun v' A' w ho hK => ?_
  refine vl asg <| nl <| thn <| rt <| p1r (a := _) rfl <| ?_
  exact ⟨A', ho, hK⟩
theorem copyScan_c (hK : K e w G L) (ht : IntS G t ts) (hle : ts.length ≤ 1000000000) :
  Ret prog 73 #[.agg #[.int .i64 n, t]] w (fun r w' => ∃ t' A, r = .agg #[.int .i64 n, t'] ∧ OS 1 3 t' ts.length (ints ts) A ∧ K e w' G (A ++ L)) := by
 refine enterG1 (args := [.agg #[.int .i64 n, t]]) func73 rfl rfl rfl rfl ?_
 refine sq <| rg <| ?_
 refine bx hK rfl rfl ?_
 intro b1 w hK
 refine al hK Ty.i34 rfl ?_
 intro b2 w hK
 refine nl <| thn <| sq <| ?_
 refine rgs (fun w => K e w G ((b1, row [.int .i64 n, t] 34) :: L)) (fun w => K _ w _ _) [U,U,U,U,U,U,U] 7 Ty.mixed rfl rfl (hK.drawn _) ?_
 intro w hK
 have hS : (fun w => K e w G ((b1, row [.int .i64 n, t] 34) :: L)) w := K.sl hK
 refine xt (i := 0) rfl kr rfl rfl (fun w hK => (fa underlying34 rfl Ty.z3 rfl)) hS <| xt (i := 1) rfl kr rfl rfl (fun w hK => (ldO hK Ty.o3 0 rfl rfl rfl)) hS <| xt (i := 2) rfl kr rfl rfl (fun w hK => (fa underlying34 rfl Ty.z25 rfl)) hS <| xt (i := 3) rfl kr rfl rfl (fun w hK => (ldO hK Ty.o25 0 rfl rfl rfl)) hS <| ?_
 refine xe (i := 4) kr rfl rfl ?_
 refine cl call74 rfl (clone_c hK ht hle) ?_
 rintro t7 w ⟨A, ho, hK⟩
 replace hK := K.mid (B := [_, _]) hK
 refine xnk (K.sl hK) fun hS => ?_
 refine xe (i := 5) kr rfl rfl ?_
 refine vl (bd [(0, _), (1, _)] Ty.p34 Ty.i34 rfl ⟨⟨rfl, rfl⟩, ⟨rfl, one_cells ho.one⟩, trivial⟩ rfl) <| ?_
 refine xnk (K.sl hK) fun hS => ?_
 refine xe (i := 6) kr rfl rfl ?_
 refine soS hK Ty.i34 0 rfl rfl rfl rfl (allc rfl (allc ho.one rfl)) rfl ?_
 intro w hK
 refine xnk (K.sl hK) fun hS => ?_
 refine xd kr <| thn <| rt <| pg1r (rvS hK Ty.a34 Ty.s34 0 rfl rfl rfl) <| ?_
 exact ⟨_, A, rfl, ho, hK.drop1.drop1⟩
end
open Go Go.Ro Tryz
section
variable {e w : World} {G : View} {L A : Own} {v u t t2 : Value} {xs ys ks ts us : List Int} {ls : List Ls} {n m : Int}
theorem eqScan_c (hK : K e w G L) (ht : IntS G t ts) (hu : IntS G t2 us) :
  Ret prog 33 #[.agg #[.int .i64 n, t], .agg #[.int .i64 m, t2]] w (fun r w' => r = .bool (decide (n = m ∧ ts = us)) ∧ K e w' G L) := by
 refine enter1 (args := [.agg #[.int .i64 n, t], .agg #[.int .i64 m, t2]]) func33 rfl rfl rfl rfl ?_
 refine sq <| rg <| ?_
 refine bx hK rfl rfl ?_
 intro b2 w hK
 refine bx hK rfl rfl ?_
 intro b3 w hK
 refine vl (aB rfl) <| nl <| thn <| sq <| sq <| rg <| vl (fa underlying34 rfl Ty.z3 rfl) <| vl (ldO hK Ty.o3 1 rfl rfl rfl) <| vl (fa underlying34 rfl Ty.z3 rfl) <| vl (ldO hK Ty.o3 0 rfl rfl rfl) <| vl (ne rfl rfl) <| nl <| thn <| ?_
 refine cdP rfl (fun h => ?_) fun h => ?_
 ·refine sq <| rg <| ?_
  refine vl (aB rfl) <| nl <| thn <| rt <| thr <| p1r (a := .bool _) rfl <| ?_
  exact ⟨by simp [h], hK.drop1.drop1⟩
 ·refine sk <| thn <| sq <| sq <| rg <| ?_
  refine vl (fa underlying34 rfl Ty.z25 rfl) <| vl (ldO hK Ty.o25 1 rfl rfl rfl) <| vl (fa underlying34 rfl Ty.z25 rfl) <| vl (ldO hK Ty.o25 0 rfl rfl rfl) <| ?_
  refine cl call34 rfl (eqIntS_c hK (by assumption) (by assumption)) ?_
  rintro _ w ⟨rfl, hK⟩
  refine vl (nt rfl) <| nl <| thn <| ?_
  refine cdP rfl (fun h2 => ?_) fun h2 => ?_
  ·refine sq <| rg <| ?_
   refine vl (aB rfl) <| nl <| thn <| rt <| thr <| p1r (a := .bool _) rfl <| ?_
   exact ⟨by simp [h2], hK.drop1.drop1⟩
  ·refine sk <| thn <| sq <| rg <| ?_
   refine vl (aB rfl) <| nl <| thn <| rt <| p1r (a := .bool _) rfl <| ?_
   exact ⟨by simp at h h2; simp [h, h2], hK.drop1.drop1⟩
end
end Go.Proofs.YtmgggljicpmndaaGreat
