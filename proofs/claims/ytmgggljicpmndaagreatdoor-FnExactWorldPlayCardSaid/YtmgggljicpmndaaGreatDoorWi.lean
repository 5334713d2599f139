/- Contracts of the functions that make new worlds, and of ideal rings. Contracts of the functions on ideal rings. Conditions: those that each row states. -/
import Derived.Test.YtmgggljicpmndaaGreatDoorWm
namespace Go.Proofs.YtmgggljicpmndaaGreatDoor
open Go Go.Ro Tryz
section
variable {e w : World} {G : View} {L A : Own} {v u : Value} {xs ys : List Int} {ls ms : List Ls} {rs qs : List Rn} {zs ts : List It} {W W' : Wv} {wd wd' : Wd} {a b k id other : Int} {i j bk o : Nat}
theorem until_c {C : World → Prop} (hK : C w) (h0 : 0 ≤ k) (h1 : k ≤ 100000) : Ret prog 114 #[.int .i64 k] w (fun r w' => r = .int .i64 (min (k + 20) 999) ∧ C w') := by
 refine enter1 (args := [.int .i64 k]) func114 rfl rfl rfl rfl ?_
 refine sq <| rg <| ?_
 refine vl (aI rfl) <| nl <| thn <| sq <| rg <| vl (mI rfl) <| vl (ad rfl rfl) <| vl (mn rfl rfl) <| vl (aI rfl) <| nl <| thn <| rt <| p1r (a := .int _ _) rfl <| ?_
 exact ⟨rfl, hK⟩
theorem leasesFor_c (hK : K e w G L) (hv : RngS G v rs) (hl : rs.length ≤ 100000) (h0 : 0 ≤ k) (h1 : k ≤ 100000) : Ret prog 63 #[v, .int .i64 k] w (fun r w' => ∃ A, OS 3 101 r rs.length (((ids (rgl rs)).map fun i => (i, i, min (k + 20) 999)).flatMap lc) A ∧ K e w' G (A ++ L)) := by
 have hs := hv.sl
 refine enter1 (args := [v, .int .i64 k]) func63 rfl rfl rfl rfl ?_
 refine sq <| rg <| ?_
 refine vl asg <| nl <| thn <| sq <| rg <| vl asg <| nl <| thn <| sq <| sq <| rg <| vl mv <| vl (ln underlying25 rfl hs.len) <| vl (mI rfl) <| nl <| thn <| ?_
 refine bk <| ?_
 refine lp (σ := Nat × Value × Own) (fun s => [(1, .int .i64 k), (5, s.2.1), (8, v), (9, .int .i64 (rs.length : Int)), (10, .int .i64 (s.1 : Int))]) (fun s w => s.1 ≤ rs.length ∧ OS 3 101 s.2.1 ((rs.take s.1).map fun x => ((x.1, x.1, min (k + 20) 999) : Ls)).length (((rs.take s.1).map fun x => ((x.1, x.1, min (k + 20) 999) : Ls)).flatMap lc) s.2.2 ∧ K e w G (s.2.2 ++ L)) (fun s => rs.length - s.1) (0, .slice none 0 0, []) ⟨rfl, rfl, rfl, rfl, rfl, trivial⟩ ⟨Nat.zero_le _, OS.nil _ _, hK⟩ ?_
 rintro ⟨i, u, A⟩ g w ⟨hi, ho, hK⟩
 simp only at hi ho hK
 refine sq <| rg <| ?_
 refine vl (lt rfl rfl) <| nl <| thn <| sq <| ?_
 refine cdP rfl (fun hc => ?_) fun hc => ?_
 ·have hi' : i < rs.length := by simp only at hc; omega
  have hx := hv.at hi'
  refine sk <| thn <| sq <| bk <| sq <| rg <| ?_
  refine vl (ixn underlying25 Ty.s98 rfl hs.1 rfl om) <| vl (lsF hK Ty.a98 Ty.s98 rfl hs om) <| ?_
  refine al hK Ty.i98 rfl ?_
  intro b7 w hK
  refine soS hK Ty.i98 0 rfl rfl rfl rfl (allc rfl (allc rfl (allc hx.1.one rfl))) rfl ?_
  intro w hK
  refine nl <| thn <| ?_
  refine rgs (fun w => K e w G ((b7, row (rc rs[i]) 98) :: L)) (fun w => K _ w _ _) [U,U,U,U,U,U,U,U,U,U,U] 11 Ty.mixed rfl rfl (hK.drawn _) ?_
  intro w hK
  have hS : (fun w => K e w G ((b7, row (rc rs[i]) 98) :: L)) w := K.sl hK
  refine xt (i := 0) rfl kr rfl rfl (fun w hK => mv) hS <| xt (i := 1) rfl kr rfl rfl (fun w hK => (fa underlying98 rfl Ty.z3 rfl)) hS <| xt (i := 2) rfl kr rfl rfl (fun w hK => (ldO hK Ty.o3 0 rfl rfl rfl)) hS <| xt (i := 3) rfl kr rfl rfl (fun w hK => (fa underlying98 rfl Ty.z3 rfl)) hS <| xt (i := 4) rfl kr rfl rfl (fun w hK => (ldO hK Ty.o3 0 rfl rfl rfl)) hS <| xt (i := 5) rfl kr rfl rfl (fun w hK => (mI rfl)) hS <| ?_
  refine xe (i := 6) kr rfl rfl ?_
  refine cl call114 rfl (until_c (C := fun w => K e w G ((b7, row (rc rs[i]) 98) :: (A ++ L))) hK h0 h1) ?_
  rintro _ w ⟨rfl, hK⟩
  refine xnk (K.sl hK) fun hS => ?_
  refine xe (i := 7) kr rfl rfl ?_
  refine vl (bd [(0, _), (1, _), (2, _)] Ty.p101 Ty.i101 rfl ⟨⟨rfl, rfl⟩, ⟨rfl, rfl⟩, ⟨rfl, rfl⟩, trivial⟩ rfl) <| ?_
  refine xnk (K.sl hK) fun hS => ?_
  refine xe (i := 8) kr rfl rfl ?_
  refine bsS1 hK underlying26 Ty.i101 rfl rfl rfl rfl rfl rfl ?_
  intro b22 w hK
  refine xnk (K.sl hK) fun hS => ?_
  refine xe (i := 9) kr rfl rfl ?_
  replace hK : K e w G ((b22, row (lc (rs[i].1, rs[i].1, min (k + 20) 999)) 101) :: (A ++ ((b7, row (rc rs[i]) 98) :: L))) := K.midc (A := [_]) hK
  refine apE1 (c := lc) (k := (rs[i].1, rs[i].1, min (k + 20) 999)) (fun _ => rfl) rfl hK underlying26 Ty.i101 rfl rfl rfl ho rfl (by simp; omega) fun v' A' w ho hK => ?_
  refine xnk ((K.dropL hK)) fun hS => ?_
  refine xt (i := 10) rfl kr rfl rfl (fun w hK => asg) hS <| xd kr <| bkn <| thn <| rg <| vl (ad rfl rfl) <| vl (mI rfl) <| nl <| thn <| ?_
  exact ⟨(i + 1, v', A'), ⟨rfl, rfl, rfl, rfl, rfl, trivial⟩, ⟨hi', by rw [List.take_succ_eq_append_getElem hi', List.map_append]; exact ho, K.dropX hK⟩, by simp only; omega⟩
 ·have hi' : i = rs.length := by simp only at hc; omega
  subst hi'
  refine ex <| the <| the <| bkh <| thn <| sq <| rg <| ?_
  refine vl mv <| vl asg <| nl <| thn <| rt <| p1r (a := _) rfl <| ?_
  rw [List.take_length, List.length_map] at ho
  refine ⟨A, ?_, hK⟩
  rw [ids_rg, List.map_map]; exact ho
theorem l51Leases_c (hK : K e w G L) (hv : IntS G v xs) (hl : xs.length ≤ 100000) : Ret prog 54 #[v, .int .i64 k] w (fun r w' => ∃ A, OS 3 101 r xs.length ((xs.map fun i => (i, i, k)).flatMap lc) A ∧ K e w' G (A ++ L)) := by
 refine enter1 (args := [v, .int .i64 k]) func54 rfl rfl rfl rfl ?_
 refine sq <| rg <| ?_
 refine vl asg <| nl <| thn <| sq <| rg <| ?_
 refine bs0 hK underlying26 Ty.i101 ?_
 intro b7 w hK
 refine vl asg <| nl <| thn <| sq <| sq <| rg <| vl (aI rfl) <| nl <| thn <| bk <| ?_
 refine lp (σ := Nat × Value × Own) (fun s => [(0, v), (1, .int .i64 k), (5, s.2.1), (6, .int .i64 (s.1 : Int))]) (fun s w => s.1 ≤ xs.length ∧ OS 3 101 s.2.1 ((xs.take s.1).map fun x => ((x, x, k) : Ls)).length (((xs.take s.1).map fun x => ((x, x, k) : Ls)).flatMap lc) s.2.2 ∧ K e w G (s.2.2 ++ L)) (fun s => xs.length - s.1) (0, .slice (some ⟨b7, 0, none⟩) 0 0, [(b7, row [] 101)]) ⟨rfl, rfl, rfl, rfl, trivial⟩ ⟨Nat.zero_le _, OS.none, hK⟩ ?_
 rintro ⟨i, u, A⟩ g w ⟨hi, ho, hK⟩
 simp only at hi ho hK
 refine sq <| sq <| rg <| ?_
 refine vl (mI rfl) <| vl mv <| vl (ln underlying22 rfl hv.len) <| vl (lt rfl rfl) <| nl <| thn <| ?_
 refine cdP rfl (fun hc => ?_) fun hc => ?_
 ·have hi' : i < xs.length := by simp only at hc; omega
  refine sk <| thn <| sq <| bk <| ?_
  refine rgs (fun w => K e w G L) (fun w => K _ w _ _) [U,U,U,U,U,U,U,U,U,U,U,U,U,U] 14 Ty.mixed rfl rfl (hK.drawn _) ?_
  intro w hK
  have hS : (fun w => K e w G L) w := K.sl hK
  refine xt (i := 0) rfl kr rfl rfl (fun w hK => mv) hS <| xt (i := 1) rfl kr rfl rfl (fun w hK => mv) hS <| xt (i := 2) rfl kr rfl rfl (fun w hK => (mI rfl)) hS <| xt (i := 3) rfl kr rfl rfl (fun w hK => (ixn1 underlying22 Ty.s3 rfl hv.1 rfl om)) hS <| xt (i := 4) rfl kr rfl rfl (fun w hK => (ldV hK Ty.o3 rfl (by exact hv.at om))) hS <| xt (i := 5) rfl kr rfl rfl (fun w hK => mv) hS <| xt (i := 6) rfl kr rfl rfl (fun w hK => (mI rfl)) hS <| xt (i := 7) rfl kr rfl rfl (fun w hK => (ixn1 underlying22 Ty.s3 rfl hv.1 rfl om)) hS <| xt (i := 8) rfl kr rfl rfl (fun w hK => (ldV hK Ty.o3 rfl (by exact hv.at om))) hS <| xt (i := 9) rfl kr rfl rfl (fun w hK => (mI rfl)) hS <| ?_
  refine xe (i := 10) kr rfl rfl ?_
  refine vl (bd [(0, _), (1, _), (2, _)] Ty.p101 Ty.i101 rfl ⟨⟨rfl, rfl⟩, ⟨rfl, rfl⟩, ⟨rfl, rfl⟩, trivial⟩ rfl) <| ?_
  refine xnk (K.sl hK) fun hS => ?_
  refine xe (i := 11) kr rfl rfl ?_
  refine bsS1 hK underlying26 Ty.i101 rfl rfl rfl rfl rfl rfl ?_
  intro b25 w hK
  refine xnk (K.sl hK) fun hS => ?_
  refine xe (i := 12) kr rfl rfl ?_
  refine apE1 (c := lc) (k := (xs[i], xs[i], k)) (fun _ => rfl) rfl hK underlying26 Ty.i101 rfl rfl rfl ho rfl (by simp; omega) fun v' A' w ho hK => ?_
  refine xnk ((K.dropL hK)) fun hS => ?_
  refine xt (i := 13) rfl kr rfl rfl (fun w hK => asg) hS <| xd kr <| bkn <| thn <| rg <| vl (mI rfl) <| vl (ad rfl rfl) <| vl (aI rfl) <| nl <| thn <| ?_
  exact ⟨(i + 1, v', A'), ⟨rfl, rfl, rfl, rfl, trivial⟩, ⟨hi', by rw [List.take_succ_eq_append_getElem hi', List.map_append]; exact ho, hK⟩, by simp only; omega⟩
 ·have hi' : i = xs.length := by simp only at hc; omega
  subst hi'
  refine ex <| the <| the <| bkh <| thn <| sq <| rg <| ?_
  refine vl mv <| vl asg <| nl <| thn <| rt <| p1r (a := _) rfl <| ?_
  rw [List.take_length, List.length_map] at ho
  exact ⟨A, ho, hK⟩
theorem specWorldNew_c (hK : K e w G L) (hv : IntS G v xs) : Ret prog 22 #[v] w (fun r w' => ∃ G' W wd rs b, r = .tuple #[.agg (wc W).toArray, .bool b] ∧ VLe G G' ∧ WdS G' lc W wd rs ∧ (b = true ↔ NdsOk xs ∧ 3 ≤ xs.length) ∧ wd = (if b then newW xs else wdZ) ∧ K e w' G' L) := by
 have hle := hv.le
 refine enterG2 (args := [v]) func22 rfl rfl rfl rfl ?_
 refine sq <| rg <| ?_
 refine al hK Ty.i31 rfl ?_
 intro b2 w hK
 refine vl (aB rfl) <| nl <| thn <| sq <| rg <| vl mv <| ?_
 refine cl call53 rfl (specRingNew_c hK hv) ?_
 rintro _ w ⟨G1, u, rs, b, rfl, hG1, hR, hb, hrg, hK⟩
 refine vl mv <| vl (ext rfl rfl) <| vl (ext rfl rfl) <| vl asg <| vl (aB rfl) <| nl <| thn <| sq <| sq <| rg <| vl (mB rfl) <| vl (ntB rfl) <| nl <| thn <| ?_
 refine cdB rfl (fun h1 => ?_) fun h1 => ?_
 ·have h1' : b = false := Eq.mp (Bool.not_eq_true' _) h1
  refine sq <| rg <| ?_
  refine vl (bd [] Ty.p31 Ty.i31 rfl trivial rfl) <| ?_
  refine soS hK Ty.i31 0 rfl rfl rfl rfl rfl rfl ?_
  intro w hK
  refine vl (aB rfl) <| nl <| thn <| rt <| thr <| pg2r (rvS hK Ty.a31 Ty.s31 0 rfl rfl rfl) (rvT (v := .bool _) rfl) <| ?_
  exact ⟨G1, _, wdZ, [], false, rfl, hG1, WdS.zero, by rw [← hb, h1'], rfl, hK.drop1⟩
 ·have h1' : b = true := Eq.mp (Bool.not_eq_false' _) h1
  have hok := hb.1 h1'
  rw [h1'] at hrg
  refine sk <| thn <| sq <| rg <| ?_
  refine vl mv <| vl mv <| ?_
  refine cl call54 rfl (l51Leases_c hK (hv.mono hG1) (by have := hok.1.1; omega)) ?_
  rintro l w ⟨A, ho, hK⟩
  obtain ⟨G2, hG2, hl, hK⟩ := K.pubE (c := lc) (xs := xs.map fun i => (i, i, 20)) (fun _ => rfl) hK (by rw [List.length_map]; exact ho)
  refine bs0 hK underlying27 Ty.i104 ?_
  intro b17 w hK
  refine cl call55 rfl (l41New_c hK) ?_
  rintro _ w ⟨t4, A4, rfl, ho4, hK⟩
  obtain ⟨G3, hG3, ht, hK⟩ := K.pubO (xs := []) hK ho4
  refine bs0 hK underlying22 Ty.i3 ?_
  intro b19 w hK
  refine vl (bd [(1, _), (2, _), (3, _), (4, _), (5, _)] Ty.p31 Ty.i31 rfl ⟨⟨rfl, one_cells hR.sl.1.one⟩, ⟨rfl, one_cells hl.1.one⟩, ⟨rfl, rfl⟩, ⟨rfl, rfl⟩, ⟨rfl, rfl⟩, trivial⟩ rfl) <| ?_
  refine soS hK Ty.i31 2 rfl rfl rfl rfl (allc rfl (allc hR.sl.1.one (allc hl.1.one (allc rfl (allc rfl (allc ht.1.one (allc rfl rfl))))))) rfl ?_
  intro w hK
  refine vl (aB rfl) <| nl <| thn <| rt <| pg2r (rvS hK Ty.a31 Ty.s31 2 rfl rfl rfl) (rvT (v := .bool _) rfl) <| ?_
  exact ⟨G3, ⟨0, u, l, _, 0, t4, _⟩, newW xs, rs, true, rfl, (hG1.trans hG2).trans hG3, ⟨rfl, hR.mono (hG2.trans hG3), hrg, LeaS.mono hl hG3, SlR.lit0, rfl, ht, SlR.lit0⟩, by simp [hok], rfl, (K.sl hK (by repeat' (first | exact List.Sublist.refl _ | refine List.Sublist.cons _ ?_)))⟩
end
open Go Go.Ro Tryz
section
variable {e w : World} {G : View} {L A : Own} {v u : Value} {xs ys : List Int} {ls ms : List Ls} {rs qs : List Rn} {zs ts : List It} {W W' : Wv} {wd wd' : Wd} {a b k id other : Int} {i j bk o : Nat}
end
end Go.Proofs.YtmgggljicpmndaaGreatDoor