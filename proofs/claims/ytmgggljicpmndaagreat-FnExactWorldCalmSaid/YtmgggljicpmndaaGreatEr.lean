/- Contracts of the functions that make new worlds, and of ideal rings. Contracts of the program's functions that make new rings and worlds: they lie in new memory. The law on new worlds, exactly. Binary searches. Insertions into slices. Copies of slices, deletions from them. errors.Is over two variables of a package. Conditions: those that each row states. -/
import Derived.Test.YtmgggljicpmndaaGreatWm
import Derived.Test.YtmgggljicpmndaaGreatRgG
import Derived.Test.YtmgggljicpmndaaGreatXm
import Derived.Test.YtmgggljicpmndaaGreatWv
import Derived.Test.YtmgggljicpmndaaGreatPlM
import Derived.WalkKit
import Derived.LaidEql
import Derived.Stop.Asserts
import Derived.RowKitTokens
namespace Go.Proofs.YtmgggljicpmndaaGreat
open Go Go.Ro Tryz
section
variable {e w : World} {G : View} {L A : Own} {v u : Value} {xs ys : List Int} {ls ms : List Ls} {rs qs : List Rn} {zs ts : List It} {W W' : Wv} {wd wd' : Wd} {a b k id other : Int} {i j bk o : Nat}
theorem until_c {C : World → Prop} (hK : C w) (h0 : 0 ≤ k) (h1 : k ≤ 100000) : Ret prog 77 #[.int .i64 k] w (fun r w' => r = .int .i64 (min (k + 20) 999) ∧ C w') := by
 refine enter1 (args := [.int .i64 k]) func77 rfl rfl rfl rfl ?_
 refine sq <| rg <| ?_
 refine vl (aI rfl) <| nl <| thn <| sq <| rg <| vl (mI rfl) <| vl (ad rfl rfl) <| vl (mn rfl rfl) <| vl (aI rfl) <| nl <| thn <| rt <| p1r (a := .int _ _) rfl <| ?_
 exact ⟨rfl, hK⟩
theorem leasesFor_c (hK : K e w G L) (hv : RngS G v rs) (hl : rs.length ≤ 100000) (h0 : 0 ≤ k) (h1 : k ≤ 100000) : Ret prog 29 #[v, .int .i64 k] w (fun r w' => ∃ A, OS 3 78 r rs.length (((ids (rgl rs)).map fun i => (i, i, min (k + 20) 999)).flatMap lc) A ∧ K e w' G (A ++ L)) := by
 have hs := hv.sl
 refine enter1 (args := [v, .int .i64 k]) func29 rfl rfl rfl rfl ?_
 refine sq <| rg <| ?_
 refine vl asg <| nl <| thn <| sq <| rg <| vl asg <| nl <| thn <| sq <| sq <| rg <| vl mv <| vl (ln underlying31 rfl hs.len) <| vl (mI rfl) <| nl <| thn <| ?_
 refine bk <| ?_
 refine lp (σ := Nat × Value × Own) (fun s => [(1, .int .i64 k), (5, s.2.1), (8, v), (9, .int .i64 (rs.length : Int)), (10, .int .i64 (s.1 : Int))]) (fun s w => s.1 ≤ rs.length ∧ OS 3 78 s.2.1 ((rs.take s.1).map fun x => ((x.1, x.1, min (k + 20) 999) : Ls)).length (((rs.take s.1).map fun x => ((x.1, x.1, min (k + 20) 999) : Ls)).flatMap lc) s.2.2 ∧ K e w G (s.2.2 ++ L)) (fun s => rs.length - s.1) (0, .slice none 0 0, []) ⟨rfl, rfl, rfl, rfl, rfl, trivial⟩ ⟨Nat.zero_le _, OS.nil _ _, hK⟩ ?_
 rintro ⟨i, u, A⟩ g w ⟨hi, ho, hK⟩
 simp only at hi ho hK
 refine sq <| rg <| ?_
 refine vl (lt rfl rfl) <| nl <| thn <| sq <| ?_
 refine cdP rfl (fun hc => ?_) fun hc => ?_
 ·have hi' : i < rs.length := by simp only at hc; omega
  have hx := hv.at hi'
  refine sk <| thn <| sq <| bk <| sq <| rg <| ?_
  refine vl (ixn underlying31 Ty.s79 rfl hs.1 rfl om) <| vl (lsF hK Ty.a79 Ty.s79 rfl hs om) <| ?_
  refine al hK Ty.i79 rfl ?_
  intro b7 w hK
  refine soS hK Ty.i79 0 rfl rfl rfl rfl (allc rfl (allc rfl (allc hx.1.one rfl))) rfl ?_
  intro w hK
  refine nl <| thn <| ?_
  refine rgs (fun w => K e w G ((b7, row (rc rs[i]) 79) :: L)) (fun w => K _ w _ _) [U,U,U,U,U,U,U,U,U,U,U] 11 Ty.mixed rfl rfl (hK.drawn _) ?_
  intro w hK
  have hS : (fun w => K e w G ((b7, row (rc rs[i]) 79) :: L)) w := K.sl hK
  refine xt (i := 0) rfl kr rfl rfl (fun w hK => mv) hS <| xt (i := 1) rfl kr rfl rfl (fun w hK => (fa underlying79 rfl Ty.z3 rfl)) hS <| xt (i := 2) rfl kr rfl rfl (fun w hK => (ldO hK Ty.o3 0 rfl rfl rfl)) hS <| xt (i := 3) rfl kr rfl rfl (fun w hK => (fa underlying79 rfl Ty.z3 rfl)) hS <| xt (i := 4) rfl kr rfl rfl (fun w hK => (ldO hK Ty.o3 0 rfl rfl rfl)) hS <| xt (i := 5) rfl kr rfl rfl (fun w hK => (mI rfl)) hS <| ?_
  refine xe (i := 6) kr rfl rfl ?_
  refine cl call77 rfl (until_c (C := fun w => K e w G ((b7, row (rc rs[i]) 79) :: (A ++ L))) hK h0 h1) ?_
  rintro _ w ⟨rfl, hK⟩
  refine xnk (K.sl hK) fun hS => ?_
  refine xe (i := 7) kr rfl rfl ?_
  refine vl (bd [(0, _), (1, _), (2, _)] Ty.p78 Ty.i78 rfl ⟨⟨rfl, rfl⟩, ⟨rfl, rfl⟩, ⟨rfl, rfl⟩, trivial⟩ rfl) <| ?_
  refine xnk (K.sl hK) fun hS => ?_
  refine xe (i := 8) kr rfl rfl ?_
  refine bsS1 hK underlying32 Ty.i78 rfl rfl rfl rfl rfl rfl ?_
  intro b22 w hK
  refine xnk (K.sl hK) fun hS => ?_
  refine xe (i := 9) kr rfl rfl ?_
  replace hK : K e w G ((b22, row (lc (rs[i].1, rs[i].1, min (k + 20) 999)) 78) :: (A ++ ((b7, row (rc rs[i]) 79) :: L))) := K.midc (A := [_]) hK
  refine apE1 (c := lc) (k := (rs[i].1, rs[i].1, min (k + 20) 999)) (fun _ => rfl) rfl hK underlying32 Ty.i78 rfl rfl rfl ho rfl (by simp; omega) fun v' A' w ho hK => ?_
  refine xnk ((K.dropL hK)) fun hS => ?_
  refine xt (i := 10) rfl kr rfl rfl (fun w hK => asg) hS <| xd kr <| bkn <| thn <| rg <| vl (ad rfl rfl) <| vl (mI rfl) <| nl <| thn <| ?_
  exact ⟨(i + 1, v', A'), ⟨rfl, rfl, rfl, rfl, rfl, trivial⟩, ⟨hi', by rw [List.take_succ_eq_append_getElem hi', List.map_append]; exact ho, K.dropX hK⟩, by simp only; omega⟩
 ·have hi' : i = rs.length := by simp only at hc; omega
  subst hi'
  refine ex <| the <| the <| bkh <| thn <| sq <| rg <| ?_
  refine vl mv <| vl asg <| nl <| thn <| rt <| p1r (a := _) rfl <| ?_
  rw [List.take_length, List.length_map] at ho
  refine ⟨A, ?_, hK⟩
  rw [ids_rg, List.map_map]; exact ho
theorem l51Leases_c (hK : K e w G L) (hv : IntS G v xs) (hl : xs.length ≤ 100000) : Ret prog 19 #[v, .int .i64 k] w (fun r w' => ∃ A, OS 3 78 r xs.length ((xs.map fun i => (i, i, k)).flatMap lc) A ∧ K e w' G (A ++ L)) := by
 refine enter1 (args := [v, .int .i64 k]) func19 rfl rfl rfl rfl ?_
 refine sq <| rg <| ?_
 refine vl asg <| nl <| thn <| sq <| rg <| ?_
 refine bs0 hK underlying32 Ty.i78 ?_
 intro b7 w hK
 refine vl asg <| nl <| thn <| sq <| sq <| rg <| vl (aI rfl) <| nl <| thn <| bk <| ?_
 refine lp (σ := Nat × Value × Own) (fun s => [(0, v), (1, .int .i64 k), (5, s.2.1), (6, .int .i64 (s.1 : Int))]) (fun s w => s.1 ≤ xs.length ∧ OS 3 78 s.2.1 ((xs.take s.1).map fun x => ((x, x, k) : Ls)).length (((xs.take s.1).map fun x => ((x, x, k) : Ls)).flatMap lc) s.2.2 ∧ K e w G (s.2.2 ++ L)) (fun s => xs.length - s.1) (0, .slice (some ⟨b7, 0, none⟩) 0 0, [(b7, row [] 78)]) ⟨rfl, rfl, rfl, rfl, trivial⟩ ⟨Nat.zero_le _, OS.none, hK⟩ ?_
 rintro ⟨i, u, A⟩ g w ⟨hi, ho, hK⟩
 simp only at hi ho hK
 refine sq <| sq <| rg <| ?_
 refine vl (mI rfl) <| vl mv <| vl (ln underlying25 rfl hv.len) <| vl (lt rfl rfl) <| nl <| thn <| ?_
 refine cdP rfl (fun hc => ?_) fun hc => ?_
 ·have hi' : i < xs.length := by simp only at hc; omega
  refine sk <| thn <| sq <| bk <| ?_
  refine rgs (fun w => K e w G L) (fun w => K _ w _ _) [U,U,U,U,U,U,U,U,U,U,U,U,U,U] 14 Ty.mixed rfl rfl (hK.drawn _) ?_
  intro w hK
  have hS : (fun w => K e w G L) w := K.sl hK
  refine xt (i := 0) rfl kr rfl rfl (fun w hK => mv) hS <| xt (i := 1) rfl kr rfl rfl (fun w hK => mv) hS <| xt (i := 2) rfl kr rfl rfl (fun w hK => (mI rfl)) hS <| xt (i := 3) rfl kr rfl rfl (fun w hK => (ixn1 underlying25 Ty.s3 rfl hv.1 rfl om)) hS <| xt (i := 4) rfl kr rfl rfl (fun w hK => (ldV hK Ty.o3 rfl (by exact hv.at om))) hS <| xt (i := 5) rfl kr rfl rfl (fun w hK => mv) hS <| xt (i := 6) rfl kr rfl rfl (fun w hK => (mI rfl)) hS <| xt (i := 7) rfl kr rfl rfl (fun w hK => (ixn1 underlying25 Ty.s3 rfl hv.1 rfl om)) hS <| xt (i := 8) rfl kr rfl rfl (fun w hK => (ldV hK Ty.o3 rfl (by exact hv.at om))) hS <| xt (i := 9) rfl kr rfl rfl (fun w hK => (mI rfl)) hS <| ?_
  refine xe (i := 10) kr rfl rfl ?_
  refine vl (bd [(0, _), (1, _), (2, _)] Ty.p78 Ty.i78 rfl ⟨⟨rfl, rfl⟩, ⟨rfl, rfl⟩, ⟨rfl, rfl⟩, trivial⟩ rfl) <| ?_
  refine xnk (K.sl hK) fun hS => ?_
  refine xe (i := 11) kr rfl rfl ?_
  refine bsS1 hK underlying32 Ty.i78 rfl rfl rfl rfl rfl rfl ?_
  intro b25 w hK
  refine xnk (K.sl hK) fun hS => ?_
  refine xe (i := 12) kr rfl rfl ?_
  refine apE1 (c := lc) (k := (xs[i], xs[i], k)) (fun _ => rfl) rfl hK underlying32 Ty.i78 rfl rfl rfl ho rfl (by simp; omega) fun v' A' w ho hK => ?_
  refine xnk ((K.dropL hK)) fun hS => ?_
  refine xt (i := 13) rfl kr rfl rfl (fun w hK => asg) hS <| xd kr <| bkn <| thn <| rg <| vl (mI rfl) <| vl (ad rfl rfl) <| vl (aI rfl) <| nl <| thn <| ?_
  exact ⟨(i + 1, v', A'), ⟨rfl, rfl, rfl, rfl, trivial⟩, ⟨hi', by rw [List.take_succ_eq_append_getElem hi', List.map_append]; exact ho, hK⟩, by simp only; omega⟩
 ·have hi' : i = xs.length := by simp only at hc; omega
  subst hi'
  refine ex <| the <| the <| bkh <| thn <| sq <| rg <| ?_
  refine vl mv <| vl asg <| nl <| thn <| rt <| p1r (a := _) rfl <| ?_
  rw [List.take_length, List.length_map] at ho
  exact ⟨A, ho, hK⟩
end
open Go Go.Ro Tryz
section
variable {e w : World} {G : View} {L A : Own} {v u : Value} {xs ys : List Int} {ls ms : List Ls} {rs qs : List Rn} {zs ts : List It} {W W' : Wv} {wd wd' : Wd} {a b k id other : Int} {i j bk o : Nat}
end
open Go Go.Ro Tryz
section
variable {e w : World} {G : View} {L A AR AL AI AT AS : Own} {v u : Value} {xs ys : List Int} {rs qs : List Rn} {os : List Ron} {W W' : Wv} {wd wd' : Wd} {n m k : Int}
theorem eqWorld_t (hK : K e w G L) (hW : WdS G lc W wd rs) (hW' : WdS G lc W' wd qs) : Ret prog 8 #[.agg (wc W).toArray, .agg (wc W').toArray] w (fun r w' => r = .bool true ∧ K e w' G L) :=
 (eqWorld_c hK hW hW').mono fun _ _ ⟨h1, h2⟩ => ⟨by rw [h1, dec_t rfl], h2⟩
theorem eqWorld_ot (hK : K e w G (AR ++ (flat (uso os) ++ (AL ++ (AI ++ (AT ++ (AS ++ L))))))) (h : WdT lc 79 78 84 3 W wd os AR AL AI AT AS) (hg : W.now = wd.now ∧ rgl (toRs os) = wd.ring ∧ W.next = wd.scan.1) (hW' : WdS G lc W' wd qs) :
  Ret prog 8 #[.agg (wc W).toArray, .agg (wc W').toArray] w (fun r w' => r = .bool true ∧ K e w' G (AR ++ (flat (uso os) ++ (AL ++ (AI ++ (AT ++ (AS ++ L))))))) :=
 (eqWorld_o hK h hg hW').mono fun _ _ ⟨h1, h2⟩ => ⟨by rw [h1, dec_t rfl], h2⟩
end
open Go Go.Ro Tryz
section
variable {e w : World} {G : View} {L A : Own} {v u : Value} {ls : List Ls} {rs : List Rn} {zs : List It} {k : Int}
end
open Go Go.Ro Tryz
section
variable {e w : World} {G : View} {L A : Own} {v u : Value} {k : Int} {i b2 : Nat}
section
variable {xs : List It} {x : It}
end
section
variable {xs : List Ls} {x : Ls}
end
section
variable {xs : List Rn} {x : Rn}
end
end
open Go Go.Ro Tryz
section
variable {e w : World} {G : View} {L A : Own} {v u : Value} {xs : List Int} {k : Int} {i : Nat}
theorem cloneI_c {zs : List It} (hK : K e w G L) (hv : SlR 2 (EF ic) G v zs) (hle : zs.length ≤ 1000000) :
  Ret prog 72 #[v] w (fun r w' => ∃ A, OS 2 84 r zs.length (zs.flatMap ic) A ∧ K e w' G (A ++ L)) := by
 refine enter1 (args := [v]) func72 rfl rfl rfl rfl ?_
 refine sq <| rg <| ?_
 refine vl asg <| nl <| thn <| sq <| sq <| rg <| vl mv <| vl (eqSn underlying33 rfl hv.len rfl) <| nl <| thn <| ?_
 refine cdB rfl (fun h => ?_) fun h => ?_
 ·have hx : zs = [] := List.eq_nil_of_length_eq_zero (hv.1.nil_len h)
  subst hx
  refine sq <| rg <| ?_
  refine vl asg <| nl <| thn <| rt <| thr <| p1r (a := _) rfl <| ?_
  exact ⟨[], OS.nil _ _, hK⟩
 ·refine sk <| thn <| sq <| rg <| ?_
  refine bs0 hK underlying33 Ty.i84 ?_
  intro b5 w hK
  refine vl mv <| ?_
  refine apE (c := ic) (A := [(b5, row [] 84)]) (xs := []) (ys := zs) (fun _ => rfl) rfl (fun _ => rfl) hK underlying33 Ty.i84 rfl rfl rfl OS.none rfl hv (by simp; omega) fun v' A' w ho hK => ?_
  refine vl asg <| nl <| thn <| rt <| p1r (a := _) rfl <| ?_
  exact ⟨A', ho, hK⟩
theorem cloneL_c {zs : List Ls} (hK : K e w G L) (hv : SlR 3 (EF lc) G v zs) (hle : zs.length ≤ 1000000) :
  Ret prog 71 #[v] w (fun r w' => ∃ A, OS 3 78 r zs.length (zs.flatMap lc) A ∧ K e w' G (A ++ L)) := by
 refine enter1 (args := [v]) func71 rfl rfl rfl rfl ?_
 refine sq <| rg <| ?_
 refine vl asg <| nl <| thn <| sq <| sq <| rg <| vl mv <| vl (eqSn underlying32 rfl hv.len rfl) <| nl <| thn <| ?_
 refine cdB rfl (fun h => ?_) fun h => ?_
 ·have hx : zs = [] := List.eq_nil_of_length_eq_zero (hv.1.nil_len h)
  subst hx
  refine sq <| rg <| ?_
  refine vl asg <| nl <| thn <| rt <| thr <| p1r (a := _) rfl <| ?_
  exact ⟨[], OS.nil _ _, hK⟩
 ·refine sk <| thn <| sq <| rg <| ?_
  refine bs0 hK underlying32 Ty.i78 ?_
  intro b5 w hK
  refine vl mv <| ?_
  refine apE (c := lc) (A := [(b5, row [] 78)]) (xs := []) (ys := zs) (fun _ => rfl) rfl (fun _ => rfl) hK underlying32 Ty.i78 rfl rfl rfl OS.none rfl hv (by simp; omega) fun v' A' w ho hK => ?_
  refine vl asg <| nl <| thn <| rt <| p1r (a := _) rfl <| ?_
  exact ⟨A', ho, hK⟩
end
open Go Go.RowKit Go.Extern.Stop Go.Stop Go.Extern
def cmpE : Array Value → Sem Value := Extern.ReflectliteType.method fun t => do Go.Extern.Rtype.noPackHeld "Comparable" t; pure (.bool (← typeInfo t).comparable)
end Go.Proofs.YtmgggljicpmndaaGreat