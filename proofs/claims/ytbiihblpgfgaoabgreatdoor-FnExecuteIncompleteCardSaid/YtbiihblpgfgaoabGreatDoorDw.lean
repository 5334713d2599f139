/- Contracts of the functions that make new worlds, and of ideal rings. Contracts of the functions on ideal rings. Contracts of the functions that copy, measure and compare worlds. Contracts of the functions that draw nodes, rings and worlds. Conditions: those that each row states. -/
import Derived.Test.YtbiihblpgfgaoabGreatDoorWm
import Derived.Test.YtbiihblpgfgaoabGreatDoorRg
namespace Go.Proofs.YtbiihblpgfgaoabGreatDoor
open Go Go.Ro Tryz
section
variable {e w : World} {G : View} {L A : Own} {v u : Value} {xs ys : List Int} {ls ms : List Ls} {rs qs : List Rn} {zs ts : List It} {W W' : Wv} {wd wd' : Wd} {a b k id other : Int} {i j bk o : Nat}
theorem until_c {C : World → Prop} (hK : C w) (h0 : 0 ≤ k) (h1 : k ≤ 100000) : Ret prog 46 #[.int .i64 k] w (fun r w' => r = .int .i64 (min (k + 20) 999) ∧ C w') := by
 refine enter1 (args := [.int .i64 k]) func46 rfl rfl rfl rfl ?_
 refine sq <| rg <| ?_
 refine vl (aI rfl) <| nl <| thn <| sq <| rg <| vl (mI rfl) <| vl (ad rfl rfl) <| vl (mn rfl rfl) <| vl (aI rfl) <| nl <| thn <| rt <| p1r (a := .int _ _) rfl <| ?_
 exact ⟨rfl, hK⟩
theorem leasesFor_c (hK : K e w G L) (hv : RngS G v rs) (hl : rs.length ≤ 100000) (h0 : 0 ≤ k) (h1 : k ≤ 100000) : Ret prog 27 #[v, .int .i64 k] w (fun r w' => ∃ A, OS 3 86 r rs.length (((ids (rgl rs)).map fun i => (i, i, min (k + 20) 999)).flatMap lc) A ∧ K e w' G (A ++ L)) := by
 have hs := hv.sl
 refine enter1 (args := [v, .int .i64 k]) func27 rfl rfl rfl rfl ?_
 refine sq <| rg <| ?_
 refine vl asg <| nl <| thn <| sq <| rg <| vl asg <| nl <| thn <| sq <| sq <| rg <| vl mv <| vl (ln underlying32 rfl hs.len) <| vl (mI rfl) <| nl <| thn <| ?_
 refine bk <| ?_
 refine lp (σ := Nat × Value × Own) (fun s => [(1, .int .i64 k), (5, s.2.1), (8, v), (9, .int .i64 (rs.length : Int)), (10, .int .i64 (s.1 : Int))]) (fun s w => s.1 ≤ rs.length ∧ OS 3 86 s.2.1 ((rs.take s.1).map fun x => ((x.1, x.1, min (k + 20) 999) : Ls)).length (((rs.take s.1).map fun x => ((x.1, x.1, min (k + 20) 999) : Ls)).flatMap lc) s.2.2 ∧ K e w G (s.2.2 ++ L)) (fun s => rs.length - s.1) (0, .slice none 0 0, []) ⟨rfl, rfl, rfl, rfl, rfl, trivial⟩ ⟨Nat.zero_le _, OS.nil _ _, hK⟩ ?_
 rintro ⟨i, u, A⟩ g w ⟨hi, ho, hK⟩
 simp only at hi ho hK
 refine sq <| rg <| ?_
 refine vl (lt rfl rfl) <| nl <| thn <| sq <| ?_
 refine cdP rfl (fun hc => ?_) fun hc => ?_
 ·have hi' : i < rs.length := by simp only at hc; omega
  have hx := hv.at hi'
  refine sk <| thn <| sq <| bk <| sq <| rg <| ?_
  refine vl (ixn underlying32 Ty.s84 rfl hs.1 rfl om) <| vl (lsF hK Ty.a84 Ty.s84 rfl hs om) <| ?_
  refine al hK Ty.i84 rfl ?_
  intro b7 w hK
  refine soS hK Ty.i84 0 rfl rfl rfl rfl (allc rfl (allc rfl (allc hx.1.one rfl))) rfl ?_
  intro w hK
  refine nl <| thn <| ?_
  refine rgs (fun w => K e w G ((b7, row (rc rs[i]) 84) :: L)) (fun w => K _ w _ _) [U,U,U,U,U,U,U,U,U,U,U] 11 Ty.mixed rfl rfl (hK.drawn _) ?_
  intro w hK
  have hS : (fun w => K e w G ((b7, row (rc rs[i]) 84) :: L)) w := K.sl hK
  refine xt (i := 0) rfl kr rfl rfl (fun w hK => mv) hS <| xt (i := 1) rfl kr rfl rfl (fun w hK => (fa underlying84 rfl Ty.z3 rfl)) hS <| xt (i := 2) rfl kr rfl rfl (fun w hK => (ldO hK Ty.o3 0 rfl rfl rfl)) hS <| xt (i := 3) rfl kr rfl rfl (fun w hK => (fa underlying84 rfl Ty.z3 rfl)) hS <| xt (i := 4) rfl kr rfl rfl (fun w hK => (ldO hK Ty.o3 0 rfl rfl rfl)) hS <| xt (i := 5) rfl kr rfl rfl (fun w hK => (mI rfl)) hS <| ?_
  refine xe (i := 6) kr rfl rfl ?_
  refine cl call46 rfl (until_c (C := fun w => K e w G ((b7, row (rc rs[i]) 84) :: (A ++ L))) hK h0 h1) ?_
  rintro _ w ⟨rfl, hK⟩
  refine xnk (K.sl hK) fun hS => ?_
  refine xe (i := 7) kr rfl rfl ?_
  refine vl (bd [(0, _), (1, _), (2, _)] Ty.p86 Ty.i86 rfl ⟨⟨rfl, rfl⟩, ⟨rfl, rfl⟩, ⟨rfl, rfl⟩, trivial⟩ rfl) <| ?_
  refine xnk (K.sl hK) fun hS => ?_
  refine xe (i := 8) kr rfl rfl ?_
  refine bsS1 hK underlying33 Ty.i86 rfl rfl rfl rfl rfl rfl ?_
  intro b22 w hK
  refine xnk (K.sl hK) fun hS => ?_
  refine xe (i := 9) kr rfl rfl ?_
  replace hK : K e w G ((b22, row (lc (rs[i].1, rs[i].1, min (k + 20) 999)) 86) :: (A ++ ((b7, row (rc rs[i]) 84) :: L))) := K.midc (A := [_]) hK
  refine apE1 (c := lc) (k := (rs[i].1, rs[i].1, min (k + 20) 999)) (fun _ => rfl) rfl hK underlying33 Ty.i86 rfl rfl rfl ho rfl (by simp; omega) fun v' A' w ho hK => ?_
  refine xnk ((K.dropL hK)) fun hS => ?_
  refine xt (i := 10) rfl kr rfl rfl (fun w hK => asg) hS <| xd kr <| bkn <| thn <| rg <| vl (ad rfl rfl) <| vl (mI rfl) <| nl <| thn <| ?_
  exact ⟨(i + 1, v', A'), ⟨rfl, rfl, rfl, rfl, rfl, trivial⟩, ⟨hi', by rw [List.take_succ_eq_append_getElem hi', List.map_append]; exact ho, K.dropX hK⟩, by simp only; omega⟩
 ·have hi' : i = rs.length := by simp only at hc; omega
  subst hi'
  refine ex <| the <| the <| bkh <| thn <| sq <| rg <| ?_
  refine vl mv <| vl asg <| nl <| thn <| rt <| p1r (a := _) rfl <| ?_
  rw [List.take_length, List.length_map] at ho
  refine ⟨A, ?_, hK⟩
  rw [ids_rg, List.map_map]; exact ho
theorem l51Leases_c (hK : K e w G L) (hv : IntS G v xs) (hl : xs.length ≤ 100000) : Ret prog 35 #[v, .int .i64 k] w (fun r w' => ∃ A, OS 3 86 r xs.length ((xs.map fun i => (i, i, k)).flatMap lc) A ∧ K e w' G (A ++ L)) := by
 refine enter1 (args := [v, .int .i64 k]) func35 rfl rfl rfl rfl ?_
 refine sq <| rg <| ?_
 refine vl asg <| nl <| thn <| sq <| rg <| ?_
 refine bs0 hK underlying33 Ty.i86 ?_
 intro b7 w hK
 refine vl asg <| nl <| thn <| sq <| sq <| rg <| vl (aI rfl) <| nl <| thn <| bk <| ?_
 refine lp (σ := Nat × Value × Own) (fun s => [(0, v), (1, .int .i64 k), (5, s.2.1), (6, .int .i64 (s.1 : Int))]) (fun s w => s.1 ≤ xs.length ∧ OS 3 86 s.2.1 ((xs.take s.1).map fun x => ((x, x, k) : Ls)).length (((xs.take s.1).map fun x => ((x, x, k) : Ls)).flatMap lc) s.2.2 ∧ K e w G (s.2.2 ++ L)) (fun s => xs.length - s.1) (0, .slice (some ⟨b7, 0, none⟩) 0 0, [(b7, row [] 86)]) ⟨rfl, rfl, rfl, rfl, trivial⟩ ⟨Nat.zero_le _, OS.none, hK⟩ ?_
 rintro ⟨i, u, A⟩ g w ⟨hi, ho, hK⟩
 simp only at hi ho hK
 refine sq <| sq <| rg <| ?_
 refine vl (mI rfl) <| vl mv <| vl (ln underlying35 rfl hv.len) <| vl (lt rfl rfl) <| nl <| thn <| ?_
 refine cdP rfl (fun hc => ?_) fun hc => ?_
 ·have hi' : i < xs.length := by simp only at hc; omega
  refine sk <| thn <| sq <| bk <| ?_
  refine rgs (fun w => K e w G L) (fun w => K _ w _ _) [U,U,U,U,U,U,U,U,U,U,U,U,U,U] 14 Ty.mixed rfl rfl (hK.drawn _) ?_
  intro w hK
  have hS : (fun w => K e w G L) w := K.sl hK
  refine xt (i := 0) rfl kr rfl rfl (fun w hK => mv) hS <| xt (i := 1) rfl kr rfl rfl (fun w hK => mv) hS <| xt (i := 2) rfl kr rfl rfl (fun w hK => (mI rfl)) hS <| xt (i := 3) rfl kr rfl rfl (fun w hK => (ixn1 underlying35 Ty.s3 rfl hv.1 rfl om)) hS <| xt (i := 4) rfl kr rfl rfl (fun w hK => (ldV hK Ty.o3 rfl (by exact hv.at om))) hS <| xt (i := 5) rfl kr rfl rfl (fun w hK => mv) hS <| xt (i := 6) rfl kr rfl rfl (fun w hK => (mI rfl)) hS <| xt (i := 7) rfl kr rfl rfl (fun w hK => (ixn1 underlying35 Ty.s3 rfl hv.1 rfl om)) hS <| xt (i := 8) rfl kr rfl rfl (fun w hK => (ldV hK Ty.o3 rfl (by exact hv.at om))) hS <| xt (i := 9) rfl kr rfl rfl (fun w hK => (mI rfl)) hS <| ?_
  refine xe (i := 10) kr rfl rfl ?_
  refine vl (bd [(0, _), (1, _), (2, _)] Ty.p86 Ty.i86 rfl ⟨⟨rfl, rfl⟩, ⟨rfl, rfl⟩, ⟨rfl, rfl⟩, trivial⟩ rfl) <| ?_
  refine xnk (K.sl hK) fun hS => ?_
  refine xe (i := 11) kr rfl rfl ?_
  refine bsS1 hK underlying33 Ty.i86 rfl rfl rfl rfl rfl rfl ?_
  intro b25 w hK
  refine xnk (K.sl hK) fun hS => ?_
  refine xe (i := 12) kr rfl rfl ?_
  refine apE1 (c := lc) (k := (xs[i], xs[i], k)) (fun _ => rfl) rfl hK underlying33 Ty.i86 rfl rfl rfl ho rfl (by simp; omega) fun v' A' w ho hK => ?_
  refine xnk ((K.dropL hK)) fun hS => ?_
  refine xt (i := 13) rfl kr rfl rfl (fun w hK => asg) hS <| xd kr <| bkn <| thn <| rg <| vl (mI rfl) <| vl (ad rfl rfl) <| vl (aI rfl) <| nl <| thn <| ?_
  exact ⟨(i + 1, v', A'), ⟨rfl, rfl, rfl, rfl, trivial⟩, ⟨hi', by rw [List.take_succ_eq_append_getElem hi', List.map_append]; exact ho, hK⟩, by simp only; omega⟩
 ·have hi' : i = xs.length := by simp only at hc; omega
  subst hi'
  refine ex <| the <| the <| bkh <| thn <| sq <| rg <| ?_
  refine vl mv <| vl asg <| nl <| thn <| rt <| p1r (a := _) rfl <| ?_
  rw [List.take_length, List.length_map] at ho
  exact ⟨A, ho, hK⟩
theorem specWorldNew_c (hK : K e w G L) (hv : IntS G v xs) : Ret prog 21 #[v] w (fun r w' => ∃ G' W wd rs b, r = .tuple #[.agg (wc W).toArray, .bool b] ∧ VLe G G' ∧ WdS G' lc W wd rs ∧ (b = true ↔ NdsOk xs ∧ 3 ≤ xs.length) ∧ wd = (if b then newW xs else wdZ) ∧ K e w' G' L) := by
 have hle := hv.le
 refine enterG2 (args := [v]) func21 rfl rfl rfl rfl ?_
 refine sq <| rg <| ?_
 refine al hK Ty.i39 rfl ?_
 intro b2 w hK
 refine vl (aB rfl) <| nl <| thn <| sq <| rg <| vl mv <| ?_
 refine cl call34 rfl (specRingNew_c hK hv) ?_
 rintro _ w ⟨G1, u, rs, b, rfl, hG1, hR, hb, hrg, hK⟩
 refine vl mv <| vl (ext rfl rfl) <| vl (ext rfl rfl) <| vl asg <| vl (aB rfl) <| nl <| thn <| sq <| sq <| rg <| vl (mB rfl) <| vl (ntB rfl) <| nl <| thn <| ?_
 refine cdB rfl (fun h1 => ?_) fun h1 => ?_
 ·have h1' : b = false := Eq.mp (Bool.not_eq_true' _) h1
  refine sq <| rg <| ?_
  refine vl (bd [] Ty.p39 Ty.i39 rfl trivial rfl) <| ?_
  refine soS hK Ty.i39 0 rfl rfl rfl rfl rfl rfl ?_
  intro w hK
  refine vl (aB rfl) <| nl <| thn <| rt <| thr <| pg2r (rvS hK Ty.a39 Ty.s39 0 rfl rfl rfl) (rvT (v := .bool _) rfl) <| ?_
  exact ⟨G1, _, wdZ, [], false, rfl, hG1, WdS.zero, by rw [← hb, h1'], rfl, hK.drop1⟩
 ·have h1' : b = true := Eq.mp (Bool.not_eq_false' _) h1
  have hok := hb.1 h1'
  rw [h1'] at hrg
  refine sk <| thn <| sq <| rg <| ?_
  refine vl mv <| vl mv <| ?_
  refine cl call35 rfl (l51Leases_c hK (hv.mono hG1) (by have := hok.1.1; omega)) ?_
  rintro l w ⟨A, ho, hK⟩
  obtain ⟨G2, hG2, hl, hK⟩ := K.pubE (c := lc) (xs := xs.map fun i => (i, i, 20)) (fun _ => rfl) hK (by rw [List.length_map]; exact ho)
  refine bs0 hK underlying34 Ty.i51 ?_
  intro b17 w hK
  refine cl call36 rfl (l41New_c hK) ?_
  rintro _ w ⟨t4, A4, rfl, ho4, hK⟩
  obtain ⟨G3, hG3, ht, hK⟩ := K.pubO (xs := []) hK ho4
  refine bs0 hK underlying35 Ty.i3 ?_
  intro b19 w hK
  refine vl (bd [(1, _), (2, _), (3, _), (4, _), (5, _)] Ty.p39 Ty.i39 rfl ⟨⟨rfl, one_cells hR.sl.1.one⟩, ⟨rfl, one_cells hl.1.one⟩, ⟨rfl, rfl⟩, ⟨rfl, rfl⟩, ⟨rfl, rfl⟩, trivial⟩ rfl) <| ?_
  refine soS hK Ty.i39 2 rfl rfl rfl rfl (allc rfl (allc hR.sl.1.one (allc hl.1.one (allc rfl (allc rfl (allc ht.1.one (allc rfl rfl))))))) rfl ?_
  intro w hK
  refine vl (aB rfl) <| nl <| thn <| rt <| pg2r (rvS hK Ty.a39 Ty.s39 2 rfl rfl rfl) (rvT (v := .bool _) rfl) <| ?_
  exact ⟨G3, ⟨0, u, l, _, 0, t4, _⟩, newW xs, rs, true, rfl, (hG1.trans hG2).trans hG3, ⟨rfl, hR.mono (hG2.trans hG3), hrg, LeaS.mono hl hG3, SlR.lit0, rfl, ht, SlR.lit0⟩, by simp [hok], rfl, (K.sl hK (by repeat' (first | exact List.Sublist.refl _ | refine List.Sublist.cons _ ?_)))⟩
theorem implWorldNew_c (hK : K e w G L) (hv : IntS G v xs) : Ret prog 15 #[v] w (fun r w' => ∃ G' W wd rs b, r = .tuple #[.agg (wc W).toArray, .bool b] ∧ VLe G G' ∧ WdS G' lc W wd rs ∧ (b = true ↔ NdsOk xs ∧ 3 ≤ xs.length) ∧ wd = (if b then newW xs else wdZ) ∧ K e w' G' L) := by
 have hle := hv.le
 refine enterG2 (args := [v]) func15 rfl rfl rfl rfl ?_
 refine sq <| rg <| ?_
 refine al hK Ty.i39 rfl ?_
 intro b2 w hK
 refine vl (aB rfl) <| nl <| thn <| sq <| rg <| vl mv <| ?_
 refine cl call26 rfl (implRingNew_c hK hv) ?_
 rintro _ w ⟨G1, u, rs, b, rfl, hG1, hR, hb, hrg, hK⟩
 refine vl mv <| vl (ext rfl rfl) <| vl (ext rfl rfl) <| vl asg <| vl (aB rfl) <| nl <| thn <| sq <| sq <| rg <| vl (mB rfl) <| vl (ntB rfl) <| nl <| thn <| ?_
 refine cdB rfl (fun h1 => ?_) fun h1 => ?_
 ·have h1' : b = false := Eq.mp (Bool.not_eq_true' _) h1
  refine sq <| rg <| ?_
  refine vl (bd [] Ty.p39 Ty.i39 rfl trivial rfl) <| ?_
  refine soS hK Ty.i39 0 rfl rfl rfl rfl rfl rfl ?_
  intro w hK
  refine vl (aB rfl) <| nl <| thn <| rt <| thr <| pg2r (rvS hK Ty.a39 Ty.s39 0 rfl rfl rfl) (rvT (v := .bool _) rfl) <| ?_
  exact ⟨G1, _, wdZ, [], false, rfl, hG1, WdS.zero, by rw [← hb, h1'], rfl, hK.drop1⟩
 ·have h1' : b = true := Eq.mp (Bool.not_eq_false' _) h1
  have hok := hb.1 h1'
  rw [h1'] at hrg
  have hidl : ids (rgl rs) = xs := by rw [hrg]; exact ids_idl xs
  have hlen : rs.length = xs.length := by rw [← rg_len, hrg]; simp [idl]
  refine sk <| thn <| sq <| rg <| ?_
  refine vl mv <| vl mv <| ?_
  refine cl call27 rfl (leasesFor_c hK hR (by have := hok.1.1; omega) om om) ?_
  rintro l w ⟨A, ho, hK⟩
  rw [hidl] at ho
  obtain ⟨G2, hG2, hl, hK⟩ := K.pubE (c := lc) (xs := xs.map fun i => (i, i, min (0 + 20) 999)) (fun _ => rfl) hK (by rw [List.length_map, ← hlen]; exact ho)
  refine vl (bd [(1, _), (2, _)] Ty.p39 Ty.i39 rfl ⟨⟨rfl, one_cells hR.sl.1.one⟩, ⟨rfl, one_cells hl.1.one⟩, trivial⟩ rfl) <| ?_
  refine soS hK Ty.i39 0 rfl rfl rfl rfl (allc rfl (allc hR.sl.1.one (allc hl.1.one (allc rfl (allc rfl (allc rfl (allc rfl rfl))))))) rfl ?_
  intro w hK
  refine vl (aB rfl) <| nl <| thn <| rt <| pg2r (rvS hK Ty.a39 Ty.s39 0 rfl rfl rfl) (rvT (v := .bool _) rfl) <| ?_
  exact ⟨G2, ⟨0, u, l, .slice none 0 0, 0, .slice none 0 0, .slice none 0 0⟩, newW xs, rs, true, rfl, hG1.trans hG2, ⟨rfl, hR.mono hG2, hrg, hl, SlR.lit0, rfl, SlR.lit0, SlR.lit0⟩, by simp [hok], rfl, (K.sl hK (by repeat' (first | exact List.Sublist.refl _ | refine List.Sublist.cons _ ?_)))⟩
end
open Go Go.Ro Tryz
section
variable {e w : World} {G : View} {L A : Own} {v u : Value} {xs ys : List Int} {ls ms : List Ls} {rs qs : List Rn} {zs ts : List It} {W W' : Wv} {wd wd' : Wd} {a b k id other : Int} {i j bk o : Nat}
theorem slicesEqual_c (hK : K e w G L) (hv : IntS G v xs) (hu : IntS G u ys) : Ret prog 172 #[v, u] w (fun r w' => r = .bool (decide (xs = ys)) ∧ K e w' G L) := by
 have hle := hv.le
 refine enter1 (args := [v, u]) func172 rfl rfl rfl rfl ?_
 refine sq <| rg <| ?_
 refine vl (aB rfl) <| nl <| thn <| sq <| sq <| rg <| vl mv <| vl (ln underlying35 rfl hv.len) <| vl mv <| vl (ln underlying35 rfl hu.len) <| vl (ne rfl rfl) <| nl <| thn <| ?_
 refine cdP rfl (fun h0 => ?_) fun h0 => ?_
 ·refine sq <| rg <| ?_
  refine vl (aB rfl) <| nl <| thn <| rt <| thr <| p1r (a := .bool _) rfl <| ?_
  exact ⟨by rw [decide_eq_false fun h => h0 (by rw [h])], hK⟩
 ·have hln : xs.length = ys.length := by omega
  refine sk <| thn <| sq <| sq <| rg <| ?_
  refine vl mv <| vl (ln underlying35 rfl hv.len) <| vl (mI rfl) <| nl <| thn <| bk <| ?_
  refine lp (σ := Nat) (fun i => [(0, v), (1, u), (12, .int .i64 (xs.length : Int)), (13, .int .i64 (i : Int))]) (fun i w => i ≤ xs.length ∧ xs.take i = ys.take i ∧ K e w G L) (fun i => xs.length - i) 0 ⟨rfl, rfl, rfl, rfl, trivial⟩ ⟨Nat.zero_le _, rfl, hK⟩ ?_
  rintro i g w ⟨hi, ha, hK⟩
  refine sq <| rg <| ?_
  refine vl (lt rfl rfl) <| nl <| thn <| sq <| ?_
  refine cdP rfl (fun hc => ?_) fun hc => ?_
  ·have hi' : i < xs.length := by omega
   have hi2 : i < ys.length := by omega
   refine sk <| thn <| sq <| bk <| sq <| rg <| ?_
   refine vl (mI rfl) <| vl (aI rfl) <| nl <| thn <| sq <| ?_
   refine rgq (fun w => K _ w _ _) Ty.mixed kr (hK.drawn _) ?_
   refine qv (fun w hK => mv) <| qv (fun w hK => (mI rfl)) <| qv (fun w hK => (ixn1 underlying35 Ty.s3 rfl hv.1 rfl om)) <| qldV Ty.o3 rfl (hv.at om) <| qv (fun w hK => mv) <| qv (fun w hK => (mI rfl)) <| qv (fun w hK => (ixn1 underlying35 Ty.s3 rfl hu.1 rfl om)) <| qldV Ty.o3 rfl (hu.at om) <| qv (fun w hK => (ne rfl rfl)) <| qn <| ?_
   intro w hK
   refine thn <| ?_
   refine cdP rfl (fun h1 => ?_) fun h1 => ?_
   ·refine sq <| rg <| ?_
    refine vl (aB rfl) <| nl <| thn <| rt <| bkr <| thr <| thr <| bkr <| thr <| p1r (a := .bool _) rfl <| ?_
    exact ⟨by rw [decide_eq_false fun h => h1 (by subst h; rfl)], hK⟩
   ·have h1' := Decidable.not_not.1 h1
    refine sk <| bkn <| thn <| rg <| ?_
    refine vl (ad rfl rfl) <| vl (mI rfl) <| nl <| thn <| ?_
    exact ⟨i + 1, ⟨rfl, rfl, rfl, rfl, trivial⟩, ⟨hi', by rw [List.take_succ_eq_append_getElem hi', List.take_succ_eq_append_getElem hi2, ha, h1'], hK⟩, by omega⟩
  ·have hi' : i = xs.length := by omega
   subst hi'
   rw [List.take_length, hln, List.take_length] at ha
   refine ex <| the <| the <| bkh <| thn <| sq <| rg <| ?_
   refine vl (aB rfl) <| nl <| thn <| rt <| p1r (a := .bool _) rfl <| ?_
   exact ⟨by rw [decide_eq_true ha], hK⟩
theorem sameRing1_c (hK : K e w G L) {x y : Rn} (hx : IntS G x.2.2.1 x.2.2.2) (hy : IntS G y.2.2.1 y.2.2.2) : Ret prog 171 #[.agg (rc x).toArray, .agg (rc y).toArray] w (fun r w' => r = .bool (dec (nd x = nd y)) ∧ K e w' G L) := by
 refine enter1 (args := [.agg (rc x).toArray, .agg (rc y).toArray]) func171 rfl rfl rfl rfl ?_
 refine sq <| rg <| ?_
 refine bx hK rfl rfl ?_
 intro b2 w hK
 refine bx hK rfl rfl ?_
 intro b3 w hK
 refine vl (aB rfl) <| nl <| thn <| sq <| rg <| vl (fa underlying84 rfl Ty.z3 rfl) <| vl (ldO hK Ty.o3 1 rfl rfl rfl) <| vl (fa underlying84 rfl Ty.z3 rfl) <| vl (ldO hK Ty.o3 0 rfl rfl rfl) <| vl (eq rfl rfl) <| vl (mB rfl) <| ?_
 refine splP (t := 10) rfl (fun h1 => ?_) fun h1 => ?_
 ·refine gy rfl <| vl (fa underlying84 rfl Ty.z3 rfl) <| gy rfl <| vl (ldO hK Ty.o3 1 rfl rfl rfl) <| gy rfl <| vl (fa underlying84 rfl Ty.z3 rfl) <| gy rfl <| vl (ldO hK Ty.o3 0 rfl rfl rfl) <| gy rfl <| vl (eq rfl rfl) <| vl (pk rfl) <| vl (mB rfl) <| ?_
  refine splP (t := 17) rfl (fun h2 => ?_) fun h2 => ?_
  ·refine gy rfl <| vl (fa underlying84 rfl Ty.z35 rfl) <| gy rfl <| vl (ldO hK Ty.o35 1 rfl rfl rfl) <| gy rfl <| vl (fa underlying84 rfl Ty.z35 rfl) <| gy rfl <| vl (ldO hK Ty.o35 0 rfl rfl rfl) <| gy rfl <| ?_
   refine cl call172 rfl (slicesEqual_c hK hx hy) ?_
   rintro _ w ⟨rfl, hK⟩
   refine vl (pk rfl) <| vl (aB rfl) <| nl <| thn <| rt <| p1r (a := .bool _) rfl <| ?_
   refine ⟨?_, hK.drop1.drop1⟩
   exact congrArg Value.bool ((dec_dec (p := x.2.2.2 = y.2.2.2)).symm.trans (dec_congr ⟨fun h => nd_eq h1 h2 h, fun h => congrArg (fun n : Nd => n.2.2) h⟩))
  ·refine gn rfl <| gn rfl <| gn rfl <| gn rfl <| gn rfl <| vl (pk rfl) <| vl (aB rfl) <| nl <| thn <| rt <| p1r (a := .bool _) rfl <| ?_
   exact ⟨by rw [dec_f fun h => h2 (congrArg (fun n : Nd => n.2.1) h)], hK.drop1.drop1⟩
 ·refine gn rfl <| gn rfl <| gn rfl <| gn rfl <| gn rfl <| vl (pk rfl) <| vl (mB rfl) <| gn rfl <| gn rfl <| gn rfl <| gn rfl <| gn rfl <| vl (pk rfl) <| vl (aB rfl) <| nl <| thn <| ?_
  refine rt <| p1r (a := .bool _) rfl <| ?_
  exact ⟨by rw [dec_f fun h => h1 (congrArg (fun n : Nd => n.1) h)], hK.drop1.drop1⟩
theorem equalFuncN_c {F : FuncId} (hf : ∀ args w, (callFunc F args).run prog w = .ok (.enter F args) w) (hK : K e w G L) (hv : RngS G v rs) (hu : RngS G u qs)
  (hp : ∀ (x y : Rn) (w : World) (L : Own), x ∈ rs → y ∈ qs → K e w G L → Ret prog F ([Value.agg (rc x).toArray, Value.agg (rc y).toArray] ++ []).toArray w (fun r w' => r = .bool (dec (nd x = nd y)) ∧ K e w' G L)) :
  Ret prog 170 #[v, u, .func (.func F) #[] #[]] w (fun r w' => r = .bool (dec (rgl rs = rgl qs)) ∧ K e w' G L) := by
 have hs := hv.sl
 have hs2 := hu.sl
 have hle := hs.le
 refine enter1 (args := [v, u, .func (.func F) #[] #[]]) func170 rfl rfl rfl rfl ?_
 refine sq <| rg <| ?_
 refine vl (aB rfl) <| nl <| thn <| sq <| sq <| rg <| vl mv <| vl (ln underlying32 rfl hs.len) <| vl mv <| vl (ln underlying32 rfl hs2.len) <| vl (ne rfl rfl) <| nl <| thn <| ?_
 refine cdP rfl (fun h0 => ?_) fun h0 => ?_
 ·refine sq <| rg <| ?_
  refine vl (aB rfl) <| nl <| thn <| rt <| thr <| p1r (a := .bool _) rfl <| ?_
  exact ⟨by rw [dec_f fun h => h0 (by have := congrArg List.length h; rw [rg_len, rg_len] at this; omega)], hK⟩
 ·have hln : rs.length = qs.length := by omega
  refine sk <| thn <| sq <| sq <| rg <| ?_
  refine vl mv <| vl (ln underlying32 rfl hs.len) <| vl (mI rfl) <| nl <| thn <| bk <| ?_
  refine lp (σ := Nat) (fun i => [(1, u), (2, .func (.func F) #[] #[]), (15, v), (16, .int .i64 (rs.length : Int)), (17, .int .i64 (i : Int))]) (fun i w => i ≤ rs.length ∧ rgl (rs.take i) = rgl (qs.take i) ∧ K e w G L) (fun i => rs.length - i) 0 ⟨rfl, rfl, rfl, rfl, rfl, trivial⟩ ⟨Nat.zero_le _, rfl, hK⟩ ?_
  rintro i g w ⟨hi, ha, hK⟩
  refine sq <| rg <| ?_
  refine vl (lt rfl rfl) <| nl <| thn <| sq <| ?_
  refine cdP rfl (fun hc => ?_) fun hc => ?_
  ·have hi' : i < rs.length := by omega
   have hi2 : i < qs.length := by omega
   have hx := hv.at hi'
   have hy := hu.at hi2
   refine sk <| thn <| sq <| bk <| sq <| rg <| ?_
   refine vl (mI rfl) <| vl (ixn underlying32 Ty.s84 rfl hs.1 rfl om) <| vl (lsF hK Ty.a84 Ty.s84 rfl hs om) <| ?_
   refine al hK Ty.i84 rfl ?_
   intro b8 w hK
   refine vl (aI rfl) <| ?_
   refine soS hK Ty.i84 0 rfl rfl rfl rfl (allc rfl (allc rfl (allc hx.1.one rfl))) rfl ?_
   intro w hK
   refine nl <| thn <| sq <| rg <| vl mv <| vl (mI rfl) <| vl (ixn underlying32 Ty.s84 rfl hs2.1 rfl om) <| vl (lsF hK Ty.a84 Ty.s84 rfl hs2 om) <| ?_
   refine al hK Ty.i84 rfl ?_
   intro b9 w hK
   refine soS hK Ty.i84 0 rfl rfl rfl rfl (allc rfl (allc rfl (allc hy.1.one rfl))) rfl ?_
   intro w hK
   refine nl <| thn <| sq <| rg <| vl mv <| vl (lsO hK Ty.a84 Ty.s84 1 rfl rfl rfl) <| vl (lsO hK Ty.a84 Ty.s84 0 rfl rfl rfl) <| ?_
   refine cf (cap := ([] : List Value)) (hf) rfl rfl (hp rs[i] qs[i] w _ (List.getElem_mem hi') (List.getElem_mem hi2) hK) ?_
   rintro _ w ⟨rfl, hK⟩
   refine vl (ntB rfl) <| nl <| thn <| ?_
   refine cdB rfl (fun h1 => ?_) fun h1 => ?_
   ·have h1' := not_dec (Eq.mp (Bool.not_eq_true' _) h1)
    refine sq <| rg <| ?_
    refine vl (aB rfl) <| nl <| thn <| rt <| bkr <| thr <| thr <| bkr <| thr <| p1r (a := .bool _) rfl <| ?_
    exact ⟨by rw [dec_f fun h => h1' (by rw [← rg_get hi', ← rg_get hi2]; simp only [h])], hK.drop1.drop1⟩
   ·have h1' := of_dec (Eq.mp (Bool.not_eq_false' _) h1)
    refine sk <| bkn <| thn <| rg <| ?_
    refine vl (ad rfl rfl) <| vl (mI rfl) <| nl <| thn <| ?_
    exact ⟨i + 1, ⟨rfl, rfl, rfl, rfl, rfl, trivial⟩, ⟨hi', by rw [rgl_take_succ hi', rgl_take_succ hi2, ha, h1'], hK.drop1.drop1⟩, by omega⟩
  ·have hi' : i = rs.length := by omega
   subst hi'
   rw [List.take_length, hln, List.take_length] at ha
   refine ex <| the <| the <| bkh <| thn <| sq <| rg <| ?_
   refine vl (aB rfl) <| nl <| thn <| rt <| p1r (a := .bool _) rfl <| ?_
   exact ⟨by rw [dec_t ha], hK⟩
theorem implSameRing_c (hK : K e w G L) (hv : RngS G v rs) (hu : RngS G u qs) : Ret prog 133 #[v, u] w (fun r w' => r = .bool (dec (rgl rs = rgl qs)) ∧ K e w' G L) := by
 refine enter1 (args := [v, u]) func133 rfl rfl rfl rfl ?_
 refine sq <| rg <| ?_
 refine vl (aB rfl) <| nl <| thn <| sq <| rg <| vl mv <| vl mv <| ?_
 refine cl call170 rfl (equalFuncN_c call171 hK hv hu (fun x y w L hx hy hK => sameRing1_c hK (hv.aft x hx) (hu.aft y hy))) ?_
 rintro _ w ⟨rfl, hK⟩
 refine vl (aB rfl) <| nl <| thn <| rt <| p1r (a := .bool _) rfl <| ?_
 exact ⟨rfl, hK⟩
end
open Go Go.Ro Tryz
section
variable {e w : World} {G : View} {L A : Own} {v u t t2 : Value} {xs ys : List Int} {ls ms : List Ls} {rs qs : List Rn} {zs ts : List It} {W W' : Wv} {wd wd' : Wd} {n m k : Int}
def WdL (wd : Wd) : Prop := wd.ring.length ≤ 1048576 ∧ (∀ x ∈ wd.ring, x.2.2.length ≤ 1048576) ∧ wd.leases.length ≤ 1048576 ∧ wd.items.length ≤ 1048576 ∧ wd.scan.2.length ≤ 1048576 ∧ wd.since.length ≤ 1048576
theorem specWorldOwner_c (hK : K e w G L) (hW : WdS G lc W wd rs) (hzl : wd.items.length ≤ 1048576) :
  Ret prog 44 #[.agg (wc W).toArray, .int .i64 k] w (fun r w' => (∃ n, r = .int .i64 n ∧ (¬ WdOk wd → n = -1) ∧ (WdOk wd → Pt k → n = own wd k) ∧ (¬ Pt k → n = -1)) ∧ K e w' G L) := by
 refine enter1 (args := [.agg (wc W).toArray, .int .i64 k]) func44 rfl rfl rfl rfl ?_
 refine sq <| rg <| ?_
 refine bx hK rfl rfl ?_
 intro b2 w hK
 refine vl (aI rfl) <| nl <| thn <| sq <| sq <| rg <| vl (lsO hK Ty.a39 Ty.s39 0 rfl rfl rfl) <| ?_
 refine cl call66 rfl (specWorldValid_c hK hW hzl) ?_
 rintro _ w ⟨rfl, hK⟩
 refine vl (ntB rfl) <| vl (mB rfl) <| ?_
 refine spl (t := 8) rfl (fun h1 => ?_) fun h1 => ?_
 ·have h1' := not_dec (Eq.mp (Bool.not_eq_true' _) h1)
  refine gn rfl <| gn rfl <| gn rfl <| vl (pk rfl) <| nl <| thn <| ?_
  refine cdt rfl ?_
  refine sq <| rg <| ?_
  refine vl (aI rfl) <| nl <| thn <| rt <| thr <| p1r (a := .int _ _) rfl <| ?_
  exact ⟨⟨_, rfl, fun _ => rfl, fun h => absurd h h1', fun _ => rfl⟩, hK.drop1⟩
 ·have h1' := of_dec (Eq.mp (Bool.not_eq_false' _) h1)
  refine gy rfl <| vl (mI rfl) <| gy rfl <| ?_
  refine cl call70 rfl (l1Point_c (C := fun w => K _ w _ _) hK) ?_
  rintro _ w ⟨rfl, hK⟩
  refine gy rfl <| vl (nt rfl) <| vl (pk rfl) <| nl <| thn <| ?_
  refine cdP rfl (fun h2 => ?_) fun h2 => ?_
  ·refine sq <| rg <| ?_
   refine vl (aI rfl) <| nl <| thn <| rt <| thr <| p1r (a := .int _ _) rfl <| ?_
   exact ⟨⟨_, rfl, fun _ => rfl, fun _ h => absurd h h2, fun _ => rfl⟩, hK.drop1⟩
  ·refine sk <| thn <| sq <| rg <| ?_
   refine vl (lsO hK Ty.a39 Ty.s39 0 rfl rfl rfl) <| vl (mI rfl) <| ?_
   refine cl call71 rfl (l51Owner_c hK hW (by have := h1'.2.2.1.1; omega)) ?_
   rintro _ w ⟨rfl, hK⟩
   refine vl (aI rfl) <| nl <| thn <| rt <| p1r (a := .int _ _) rfl <| ?_
   exact ⟨⟨_, rfl, fun h => absurd h1' h, fun _ _ => rfl, fun h => absurd (Decidable.not_not.1 h2) h⟩, hK.drop1⟩
end
open Go Go.Ro Tryz
section
variable {e w : World} {G : View} {L A : Own} {v u cva : Value} {code xs ys : List Int} {ls ms : List Ls} {rs qs : List Rn} {zs ts : List It} {W W' : Wv} {wd wd' : Wd} {a b k id other p m : Int} {i j bk o rb : Nat}
end
end Go.Proofs.YtbiihblpgfgaoabGreatDoor