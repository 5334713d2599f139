/- Contracts of the specification's steps of a ring: leaving, following, telling. Conditions: those that each row states. -/
import Derived.Test.YtmgggljicpmndaaGreatDoorRs1
namespace Go.Proofs.YtmgggljicpmndaaGreatDoor
open Go Go.Ro Tryz
section
variable {e w : World} {G : View} {L : Own} {v u : Value} {xs ys ks : List Int} {ls : List Ls} {rs : List Rn} {a b k id other : Int} {i j : Nat}
theorem l4Drop_c (hK : K e w G L) (hv : RngS G v rs) (hok : RgOk (rgl rs)) (hn : NdA G rs id i) :
  Ret prog 145 #[v, .int .i64 (i : Int)] w (fun r w' => ∃ G', VLe G G' ∧ RgA G' r (ot (rgl rs) (dropR (rgl rs) id)) ∧ K e w' G' L) := by
 have hs := hv.sl
 have hi := hn.lt
 have hx := hn.aft
 have hlen := hn.len
 have h0 := hn.ha0
 have h1 := hn.ha1
 have hp := hn.pa1
 have hp' : Pt rs[i].2.2.2[1] := by rw [h1]; exact hp
 refine enter2 (args := [v, .int .i64 (i : Int)]) func145 rfl rfl rfl rfl ?_
 refine sq <| rg <| ?_
 refine vl asg <| vl (aB rfl) <| nl <| thn <| sq <| rg <| vl mv <| vl (mI rfl) <| vl (ixn underlying25 Ty.s98 rfl hs.1 rfl om) <| vl (lsF hK Ty.a98 Ty.s98 rfl hs om) <| ?_
 refine al hK Ty.i98 rfl ?_
 intro b6 w hK
 refine soS hK Ty.i98 0 rfl rfl rfl rfl (allc rfl (allc rfl (allc hx.1.one rfl))) rfl ?_
 intro w hK
 refine nl <| thn <| sq <| sq <| rg <| vl mv <| vl (fa underlying98 rfl Ty.z22 rfl) <| vl (ldO hK Ty.o22 0 rfl rfl rfl) <| vl (ixn1 underlying22 Ty.s3 rfl hx.1 rfl om) <| vl (ldV hK Ty.o3 rfl (hx.at om)) <| ?_
 refine cl call98 rfl (l3Find_c hK hv) ?_
 rintro _ w ⟨rfl, hK⟩
 refine vl (ge rfl rfl) <| nl <| thn <| ?_
 refine cdP rfl (fun hc => ?_) fun hc => ?_
 ·have hc' : a0 (ndAt (rgl rs) id) ∈ ids (rgl rs) := by rw [← h0]; exact fI_ge.1 hc
  refine sq <| rg <| ?_
  refine vl mv <| ?_
  refine cl call61 rfl (l3Copy_v hK hv hok) ?_
  rintro v1 w ⟨G1, rs1, hG, hr1, hv1, hK⟩
  refine vl asg <| vl (aB rfl) <| nl <| thn <| rt <| thr <| p2r (a := _) (b := .bool _) rfl rfl <| ?_
  refine ⟨G1, hG, ?_, hK.drop1⟩
  rw [dropR_no fun h => h.2 hc']
  exact RgA.mk hv1 hr1
 ·have hc' : ¬ (a0 (ndAt (rgl rs) id) ∈ ids (rgl rs)) := by rw [← h0]; exact fun h => hc (fI_ge.2 h)
  refine sk <| thn <| sq <| ?_
  refine ct (σ := Nat) (fun s => [(0, v), (1, .int .i64 (i : Int)), (6, .pointer (some ⟨b6, 0, none⟩))]) (fun s w => K e w G ((b6, row (rc (rs[i].1, rs[i].2.1, .slice (some ⟨s, 0, none⟩) 2 2, [a1 (ndAt (rgl rs) id), (a1 (ndAt (rgl rs) id) + 1) % 64])) 98) :: (s, row [.int .i64 (a1 (ndAt (rgl rs) id)), .int .i64 ((a1 (ndAt (rgl rs) id) + 1) % 64)] 3) :: L)) ?_ ?_
  ·skip
   refine rgs (fun w => K e w G L) (fun w => K _ w _ _) [U,U,U,U,U,U,U,U,U,U,U,U,U] 13 Ty.mixed rfl rfl (hK.drawn _) ?_
   intro w hK
   have hS : (fun w => K e w G L) w := K.sl hK
   refine xt (i := 0) rfl kr rfl rfl (fun w hK => (fa underlying98 rfl Ty.z22 rfl)) hS <| xt (i := 4) rfl kr rfl rfl (fun w hK => (fa underlying98 rfl Ty.z22 rfl)) hS <| ?_
   refine xe2 (i := 1) (j := 5) kr rfl rfl rfl rfl ?_ ?_
   ·refine vl (ldO hK Ty.o22 0 rfl rfl rfl) <| ?_
    refine xnk (K.sl hK) fun hS => ?_
    refine xt (i := 2) rfl kr rfl rfl (fun w hK => (ixn1 underlying22 Ty.s3 rfl hx.1 rfl om)) hS <| xt (i := 3) rfl kr rfl rfl (fun w hK => (ldV hK Ty.o3 rfl (by exact hx.at (i := 1) om))) hS <| ?_
    refine xe (i := 5) kr rfl rfl ?_
    refine vl (ldO hK Ty.o22 0 rfl rfl rfl) <| ?_
    refine xnk (K.sl hK) fun hS => ?_
    refine xt (i := 6) rfl kr rfl rfl (fun w hK => (ixn1 underlying22 Ty.s3 rfl hx.1 rfl om)) hS <| xt (i := 7) rfl kr rfl rfl (fun w hK => (ldV hK Ty.o3 rfl (by exact hx.at (i := 1) om))) hS <| xt (i := 8) rfl kr rfl rfl (fun w hK => (ad rfl rfl)) hS <| xt (i := 9) rfl kr rfl rfl (fun w hK => (rm rfl rfl)) hS <| ?_
    refine xe (i := 10) kr rfl rfl ?_
    refine bsN [.tmp 23, .tmp 29] hK underlying22 Ty.i3 rfl rfl rfl rfl rfl rfl rfl rfl ?_
    intro b30 w hK
    refine xnk (K.sl hK) fun hS => ?_
    refine xt (i := 11) rfl kr rfl rfl (fun w hK => (fa underlying98 rfl Ty.z22 rfl)) hS <| ?_
    refine xe (i := 12) kr rfl rfl ?_
    refine so hK Ty.i22 rfl 1 rfl rfl rfl rfl rfl ?_
    intro w hK
    refine xnk (K.sl hK) fun hS => ?_
    refine xd kr <| ctn <| ?_
    exact ⟨b30, ⟨rfl, rfl, rfl, trivial⟩, by rw [← h1]; exact hK.swp⟩
   ·refine vl (ldO hK Ty.o22 0 rfl rfl rfl) <| ?_
    refine xnk (K.sl hK) fun hS => ?_
    refine xt (i := 6) rfl kr rfl rfl (fun w hK => (ixn1 underlying22 Ty.s3 rfl hx.1 rfl om)) hS <| xt (i := 7) rfl kr rfl rfl (fun w hK => (ldV hK Ty.o3 rfl (by exact hx.at (i := 1) om))) hS <| xt (i := 8) rfl kr rfl rfl (fun w hK => (ad rfl rfl)) hS <| xt (i := 9) rfl kr rfl rfl (fun w hK => (rm rfl rfl)) hS <| ?_
    refine xe (i := 1) kr rfl rfl ?_
    refine vl (ldO hK Ty.o22 0 rfl rfl rfl) <| ?_
    refine xnk (K.sl hK) fun hS => ?_
    refine xt (i := 2) rfl kr rfl rfl (fun w hK => (ixn1 underlying22 Ty.s3 rfl hx.1 rfl om)) hS <| xt (i := 3) rfl kr rfl rfl (fun w hK => (ldV hK Ty.o3 rfl (by exact hx.at (i := 1) om))) hS <| ?_
    refine xe (i := 10) kr rfl rfl ?_
    refine bsN [.tmp 23, .tmp 29] hK underlying22 Ty.i3 rfl rfl rfl rfl rfl rfl rfl rfl ?_
    intro b30 w hK
    refine xnk (K.sl hK) fun hS => ?_
    refine xt (i := 11) rfl kr rfl rfl (fun w hK => (fa underlying98 rfl Ty.z22 rfl)) hS <| ?_
    refine xe (i := 12) kr rfl rfl ?_
    refine so hK Ty.i22 rfl 1 rfl rfl rfl rfl rfl ?_
    intro w hK
    refine xnk (K.sl hK) fun hS => ?_
    refine xd kr <| ctn <| ?_
    exact ⟨b30, ⟨rfl, rfl, rfl, trivial⟩, by rw [← h1]; exact hK.swp⟩
  ·rintro bn g w hK
   refine thn <| sq <| rg <| ?_
   refine vl mv <| vl (mI rfl) <| vl (lsO hK Ty.a98 Ty.s98 0 rfl rfl rfl) <| ?_
   obtain ⟨G1, hG1, hx', hK⟩ := K.pubO (v := .slice (some ⟨bn, 0, none⟩) 2 2) (xs := [a1 (ndAt (rgl rs) id), (a1 (ndAt (rgl rs) id) + 1) % 64]) (A := [(bn, _)]) (K.swp hK) (OS.lit (by simp) (by simp))
   refine cl call182 rfl (l4Set_c (x := (rs[i].1, rs[i].2.1, .slice (some ⟨bn, 0, none⟩) 2 2, [a1 (ndAt (rgl rs) id), (a1 (ndAt (rgl rs) id) + 1) % 64])) hK (hv.mono hG1) hok hi hx' (by simp)) ?_
   rintro v2 w ⟨G2, rs2, hG2, hr2, hv2, hK⟩
   refine vl asg <| vl (aB rfl) <| nl <| thn <| rt <| p2r (a := _) (b := .bool _) rfl rfl <| ?_
   refine ⟨G2, hG1.trans hG2, ?_, hK.drop1⟩
   rw [dropR_yes ⟨hn.mem, hc'⟩]
   refine RgA.mk hv2 ?_
   rw [hr2]; unfold setN nd
   rw [hn.hfx, hn.hid, hn.bef]
theorem l4Follow_c (hK : K e w G L) (hv : RngS G v rs) (hok : RgOk (rgl rs)) (hn : NdA G rs id i) (hm : NdA G rs other j) :
  Ret prog 183 #[v, .int .i64 (i : Int), .int .i64 (j : Int)] w (fun r w' => ∃ G' rs', VLe G G' ∧ RngS G' r rs' ∧ rgl rs' = foll (rgl rs) id other ∧ K e w' G' L) := by
 have hs := hv.sl
 have hi := hn.lt
 have hj := hm.lt
 have hx := hn.aft
 have hy := hm.aft
 have hlen := hm.len
 have h0 := hm.ha0
 refine enter1 (args := [v, .int .i64 (i : Int), .int .i64 (j : Int)]) func183 rfl rfl rfl rfl ?_
 refine sq <| rg <| ?_
 refine vl asg <| nl <| thn <| sq <| rg <| vl mv <| vl (mI rfl) <| vl (ixn underlying25 Ty.s98 rfl hs.1 rfl om) <| vl (lsF hK Ty.a98 Ty.s98 rfl hs om) <| ?_
 refine al hK Ty.i98 rfl ?_
 intro b7 w hK
 refine soS hK Ty.i98 0 rfl rfl rfl rfl (allc rfl (allc rfl (allc hx.1.one rfl))) rfl ?_
 intro w hK
 refine nl <| thn <| sq <| ?_
 refine rgs (fun w => K e w G L) (fun w => K _ w _ _) [U,U,U,U,U,U,U,U,U,U,U,U,U,U,U] 15 Ty.mixed rfl rfl (hK.drawn _) ?_
 intro w hK
 have hS : (fun w => K e w G L) w := K.sl hK
 refine xt (i := 0) rfl kr rfl rfl (fun w hK => mv) hS <| xt (i := 1) rfl kr rfl rfl (fun w hK => (mI rfl)) hS <| xt (i := 2) rfl kr rfl rfl (fun w hK => (ixm (m := j) underlying25 Ty.s98 rfl hs.1 rfl om om)) hS <| xt (i := 3) rfl kr rfl rfl (fun w hK => (fe underlying98 rfl Ty.z3 rfl hs.1 om)) hS <| xt (i := 4) rfl kr rfl rfl (fun w hK => (ldV hK Ty.o3 rfl (by exact hs.cell om 0 rfl))) hS <| xt (i := 5) rfl kr rfl rfl (fun w hK => mv) hS <| xt (i := 6) rfl kr rfl rfl (fun w hK => (mI rfl)) hS <| xt (i := 7) rfl kr rfl rfl (fun w hK => (ixm (m := j) underlying25 Ty.s98 rfl hs.1 rfl om om)) hS <| xt (i := 8) rfl kr rfl rfl (fun w hK => (fe underlying98 rfl Ty.z22 rfl hs.1 om)) hS <| xt (i := 9) rfl kr rfl rfl (fun w hK => (ldV hK Ty.o22 rfl (by exact hs.cell om 2 rfl))) hS <| xt (i := 10) rfl kr rfl rfl (fun w hK => (ixn1 underlying22 Ty.s3 rfl hy.1 rfl om)) hS <| xt (i := 11) rfl kr rfl rfl (fun w hK => (ldV hK Ty.o3 rfl (by exact hy.at (i := 0) om))) hS <| ?_
 refine xe (i := 12) kr rfl rfl ?_
 refine bsN [.tmp 16, .tmp 23] hK underlying22 Ty.i3 rfl rfl rfl rfl rfl rfl rfl rfl ?_
 intro b24 w hK
 refine xnk (K.sl hK) fun hS => ?_
 refine xt (i := 13) rfl kr rfl rfl (fun w hK => (fa underlying98 rfl Ty.z22 rfl)) hS <| ?_
 refine xe (i := 14) kr rfl rfl ?_
 refine so hK Ty.i22 rfl 1 rfl rfl rfl rfl rfl ?_
 intro w hK
 refine xnk (K.sl hK) fun hS => ?_
 refine xd kr <| thn <| sq <| rg <| vl mv <| vl (mI rfl) <| vl (lsO hK Ty.a98 Ty.s98 1 rfl rfl rfl) <| ?_
 replace hK : K e w G ((b7, row (rc (rs[i].1, rs[i].2.1, .slice (some ⟨b24, 0, none⟩) 2 2, [other, a0 (ndAt (rgl rs) other)])) 98) :: (b24, row [.int .i64 other, .int .i64 (a0 (ndAt (rgl rs) other))] 3) :: L) := by rw [← h0]; simp only [← hm.hid]; exact hK.swp
 obtain ⟨G1, hG1, hx', hK⟩ := K.pubO (v := .slice (some ⟨b24, 0, none⟩) 2 2) (xs := [other, a0 (ndAt (rgl rs) other)]) (A := [(b24, _)]) (K.swp hK) (OS.lit (by simp) (by simp))
 refine cl call182 rfl (l4Set_c (x := (rs[i].1, rs[i].2.1, .slice (some ⟨b24, 0, none⟩) 2 2, [other, a0 (ndAt (rgl rs) other)])) hK (hv.mono hG1) hok hi hx' (by simp)) ?_
 rintro v2 w ⟨G2, rs2, hG2, hr2, hv2, hK⟩
 refine vl asg <| nl <| thn <| rt <| p1r (a := _) rfl <| ?_
 refine ⟨G2, rs2, hG1.trans hG2, hv2, ?_, hK.drop1⟩
 rw [hr2]; unfold foll setN nd
 rw [hn.hfx, hn.hid, hn.bef]
theorem l4Adopt_c (hK : K e w G L) (hv : RngS G v rs) (hok : RgOk (rgl rs)) (hn : NdA G rs id i) :
  Ret prog 146 #[v, .int .i64 (i : Int)] w (fun r w' => ∃ G', VLe G G' ∧ RgA G' r (ot (rgl rs) (adoptR (rgl rs) id)) ∧ K e w' G' L) := by
 have hs := hv.sl
 have hi := hn.lt
 have hx := hn.aft
 have hlen := hn.len
 have h0 := hn.ha0
 refine enter2 (args := [v, .int .i64 (i : Int)]) func146 rfl rfl rfl rfl ?_
 refine sq <| rg <| ?_
 refine vl asg <| vl (aB rfl) <| nl <| thn <| sq <| rg <| vl mv <| vl mv <| vl (mI rfl) <| vl (ixn underlying25 Ty.s98 rfl hs.1 rfl om) <| vl (fe underlying98 rfl Ty.z22 rfl hs.1 om) <| vl (ldV hK Ty.o22 rfl (hs.cell om 2 rfl)) <| vl (ixn1 underlying22 Ty.s3 rfl hx.1 rfl om) <| vl (ldV hK Ty.o3 rfl (hx.at om)) <| ?_
 refine cl call98 rfl (l3Find_c hK hv) ?_
 rintro _ w ⟨rfl, hK⟩
 refine vl (aI rfl) <| nl <| thn <| sq <| sq <| rg <| vl (mI rfl) <| vl (lt rfl rfl) <| nl <| thn <| ?_
 refine cdP rfl (fun hc => ?_) fun hc => ?_
 ·have hc2 : fI (rgl rs) (a0 (ndAt (rgl rs) id)) < 0 := by rw [← h0]; exact hc
  have hc' : a0 (ndAt (rgl rs) id) ∉ ids (rgl rs) := fun h => by have := fI_ge.2 h; omega
  refine sq <| rg <| ?_
  refine vl mv <| ?_
  refine cl call61 rfl (l3Copy_v hK hv hok) ?_
  rintro v1 w ⟨G1, rs1, hG, hr1, hv1, hK⟩
  refine vl asg <| vl (aB rfl) <| nl <| thn <| rt <| thr <| p2r (a := _) (b := .bool _) rfl rfl <| ?_
  refine ⟨G1, hG, ?_, hK⟩
  rw [adoptR_no fun h => hc' h.2]
  exact RgA.mk hv1 hr1
 ·have hc2 : ¬ fI (rgl rs) (a0 (ndAt (rgl rs) id)) < 0 := by rw [← h0]; exact hc
  have hc' : a0 (ndAt (rgl rs) id) ∈ ids (rgl rs) := fI_ge.1 (by omega)
  obtain ⟨j, hm⟩ := NdA.of hv hok hc'
  refine sk <| thn <| sq <| rg <| ?_
  refine vl mv <| vl (mI rfl) <| vl (mI rfl) <| ?_
  rw [h0, fI_in hc', hm.hfx]
  refine cl call183 rfl (l4Follow_c hK hv hok hn hm) ?_
  rintro v1 w ⟨G1, rs1, hG, hv1, hr1, hK⟩
  refine vl asg <| vl (aB rfl) <| nl <| thn <| rt <| p2r (a := _) (b := .bool _) rfl rfl <| ?_
  refine ⟨G1, hG, ?_, hK⟩
  rw [adoptR_yes ⟨hn.mem, hc'⟩]
  exact RgA.mk hv1 hr1
theorem l4Closer_c (hK : K e w G L) (hv : RngS G v rs) (hok : RgOk (rgl rs)) (hn : NdA G rs id i) :
  Ret prog 147 #[v, .int .i64 (i : Int), .int .i64 other] w (fun r w' => ∃ G', VLe G G' ∧ RgA G' r (ot (rgl rs) (closerR (rgl rs) id other)) ∧ K e w' G' L) := by
 have hs := hv.sl
 have hi := hn.lt
 have hx := hn.aft
 have hlen := hn.len
 have h0 := hn.ha0
 refine enter2 (args := [v, .int .i64 (i : Int), .int .i64 other]) func147 rfl rfl rfl rfl ?_
 refine sq <| rg <| ?_
 refine vl asg <| vl (aB rfl) <| nl <| thn <| sq <| rg <| vl mv <| vl (mI rfl) <| ?_
 refine cl call98 rfl (l3Find_c hK hv) ?_
 rintro _ w ⟨rfl, hK⟩
 refine vl (aI rfl) <| nl <| thn <| sq <| sq <| ?_
 refine rgq (fun w => K _ w _ _) Ty.mixed kr (hK.drawn _) ?_
 refine qv (fun w hK => (mI rfl)) <| qv (fun w hK => (lt rfl rfl)) <| qv (fun w hK => (mB rfl)) <| ?_
 refine qsplP (t := 14) rfl (fun hc => ?_) fun hc => ?_
 ·have hc' : other ∉ ids (rgl rs) := fun h => by have := fI_ge.2 h; omega
  refine qgn rfl <| qgn rfl <| qgn rfl <| qgn rfl <| qgn rfl <| qgn rfl <| qgn rfl <| qgn rfl <| qgn rfl <| qgn rfl <| qgn rfl <| qgn rfl <| qgn rfl <| qgn rfl <| qgn rfl <| qv (fun w hK => (pk rfl)) <| qn <| ?_
  intro w hK
  refine thn <| ?_
  refine cdt rfl ?_
  refine sq <| rg <| ?_
  refine vl mv <| ?_
  refine cl call61 rfl (l3Copy_v hK hv hok) ?_
  rintro v1 w ⟨G1, rs1, hG, hr1, hv1, hK⟩
  refine vl asg <| vl (aB rfl) <| nl <| thn <| rt <| thr <| p2r (a := _) (b := .bool _) rfl rfl <| ?_
  refine ⟨G1, hG, ?_, hK⟩
  rw [closerR_no fun h => hc' h.2.1]
  exact RgA.mk hv1 hr1
 ·have hc' : other ∈ ids (rgl rs) := fI_ge.1 (by omega)
  obtain ⟨j, hm⟩ := NdA.of hv hok hc'
  refine qgy rfl <| qv (fun w hK => mv) <| qgy rfl <| qv (fun w hK => (mI rfl)) <| qgy rfl <| qv (fun w hK => (ixn underlying25 Ty.s98 rfl hs.1 rfl om)) <| qgy rfl <| qv (fun w hK => (fe underlying98 rfl Ty.z3 rfl hs.1 om)) <| qgy rfl <| qldV Ty.o3 rfl (hs.cell om 0 rfl) <| qgy rfl <| qv (fun w hK => (mI rfl)) <| qgy rfl <| qv (fun w hK => mv) <| qgy rfl <| qv (fun w hK => (mI rfl)) <| qgy rfl <| qv (fun w hK => (ixn underlying25 Ty.s98 rfl hs.1 rfl om)) <| qgy rfl <| qv (fun w hK => (fe underlying98 rfl Ty.z22 rfl hs.1 om)) <| qgy rfl <| qldV Ty.o22 rfl (hs.cell om 2 rfl) <| qgy rfl <| qv (fun w hK => (ixn1 underlying22 Ty.s3 rfl hx.1 rfl om)) <| qgy rfl <| qldV Ty.o3 rfl (hx.at (i := 0) om) <| qgy rfl <| ?_
  refine qcl call143 rfl (fun w hK => l1Between_c (C := fun w => K e w G L) hK) ?_
  refine qgy rfl <| qv (fun w hK => (ntB rfl)) <| qv (fun w hK => (pk rfl)) <| qn <| ?_
  intro w hK
  refine thn <| ?_
  refine cdB rfl (fun hb => ?_) fun hb => ?_
  ·have hb' := Eq.mp (Bool.not_eq_true' _) hb
   rw [hn.hid, h0] at hb'
   refine sq <| rg <| ?_
   refine vl mv <| ?_
   refine cl call61 rfl (l3Copy_v hK hv hok) ?_
   rintro v1 w ⟨G1, rs1, hG, hr1, hv1, hK⟩
   refine vl asg <| vl (aB rfl) <| nl <| thn <| rt <| thr <| p2r (a := _) (b := .bool _) rfl rfl <| ?_
   refine ⟨G1, hG, ?_, hK⟩
   rw [closerR_no fun h => by have := h.2.2; rw [hb'] at this; cases this]
   exact RgA.mk hv1 hr1
  ·have hb' := Eq.mp (Bool.not_eq_false' _) hb
   rw [hn.hid, h0] at hb'
   refine sk <| thn <| sq <| rg <| ?_
   refine vl mv <| vl (mI rfl) <| vl (mI rfl) <| ?_
   rw [fI_in hc', hm.hfx]
   refine cl call183 rfl (l4Follow_c hK hv hok hn hm) ?_
   rintro v1 w ⟨G1, rs1, hG, hv1, hr1, hK⟩
   refine vl asg <| vl (aB rfl) <| nl <| thn <| rt <| p2r (a := _) (b := .bool _) rfl rfl <| ?_
   refine ⟨G1, hG, ?_, hK⟩
   rw [closerR_yes ⟨hn.mem, hc', hb'⟩]
   exact RgA.mk hv1 hr1
theorem l4Notify_c (hK : K e w G L) (hv : RngS G v rs) (hok : RgOk (rgl rs)) (hn : NdA G rs id i) (_ : Pt other) :
  Ret prog 148 #[v, .int .i64 (i : Int), .int .i64 other] w (fun r w' => ∃ G', VLe G G' ∧ RgA G' r (ot (rgl rs) (notifyR (rgl rs) id other)) ∧ K e w' G' L) := by
 have hs := hv.sl
 have hi := hn.lt
 have hx := hn.aft
 have hb := hn.bef
 have hid := hn.hid
 have hbp : rs[i].2.1 = -1 ∨ Pt rs[i].2.1 := (rgOk_at hok hi).2.1
 refine enter2 (args := [v, .int .i64 (i : Int), .int .i64 other]) func148 rfl rfl rfl rfl ?_
 refine sq <| rg <| ?_
 refine vl asg <| vl (aB rfl) <| nl <| thn <| sq <| rg <| vl mv <| vl (mI rfl) <| vl (ixn underlying25 Ty.s98 rfl hs.1 rfl om) <| vl (lsF hK Ty.a98 Ty.s98 rfl hs om) <| ?_
 refine al hK Ty.i98 rfl ?_
 intro b8 w hK
 refine soS hK Ty.i98 0 rfl rfl rfl rfl (allc rfl (allc rfl (allc hx.1.one rfl))) rfl ?_
 intro w hK
 refine nl <| thn <| sq <| sq <| ?_
 refine ct (σ := Bool) (fun s => [(0, v), (1, .int .i64 (i : Int)), (2, .int .i64 other), (8, .pointer (some ⟨b8, 0, none⟩)), (43, .bool s)]) (fun s w => (s = true ↔ ¬ (other ≠ id ∧ other ∈ ids (rgl rs) ∧ (rs[i].2.1 = -1 ∨ rs[i].2.1 ∉ ids (rgl rs) ∨ btw rs[i].2.1 other id = true))) ∧ K e w G ((b8, row (rc rs[i]) 98) :: L)) ?_ ?_
 ·refine rg <| ?_
  refine vl mv <| vl (mI rfl) <| ?_
  refine cl call98 rfl (l3Find_c hK hv) ?_
  rintro _ w ⟨rfl, hK⟩
  refine vl (lt rfl rfl) <| vl (mB rfl) <| ?_
  refine splP (t := 17) rfl (fun h1 => ?_) fun h1 => ?_
  ·have h1' : other ∉ ids (rgl rs) := fun h => by have := fI_ge.2 h; omega
   refine gn rfl <| gn rfl <| gn rfl <| gn rfl <| vl (pk rfl) <| vl (mB rfl) <| gn rfl <| gn rfl <| gn rfl <| gn rfl <| gu rfl <| gu rfl <| gu rfl <| gu rfl <| gu rfl <| gn rfl <| gn rfl <| gu rfl <| gu rfl <| gu rfl <| gu rfl <| gu rfl <| gu rfl <| gu rfl <| gn rfl <| vl (pk rfl) <| nl <| ctn <| ?_
   exact ⟨true, ⟨rfl, rfl, rfl, rfl, rfl, trivial⟩, by simp [h1'], hK⟩
  ·have h1' : other ∈ ids (rgl rs) := fI_ge.1 (by omega)
   refine gy rfl <| vl (mI rfl) <| gy rfl <| vl (fa underlying98 rfl Ty.z3 rfl) <| gy rfl <| vl (ldO hK Ty.o3 0 rfl rfl rfl) <| gy rfl <| vl (eq rfl rfl) <| vl (pk rfl) <| vl (mB rfl) <| ?_
   refine splP (t := 23) rfl (fun h2 => ?_) fun h2 => ?_
   ·refine gn rfl <| gn rfl <| gn rfl <| gn rfl <| gu rfl <| gu rfl <| gu rfl <| gu rfl <| gu rfl <| gn rfl <| gn rfl <| gu rfl <| gu rfl <| gu rfl <| gu rfl <| gu rfl <| gu rfl <| gu rfl <| gn rfl <| vl (pk rfl) <| nl <| ctn <| ?_
    exact ⟨true, ⟨rfl, rfl, rfl, rfl, rfl, trivial⟩, by simp [h2, hid], hK⟩
   ·rw [hid] at h2
    refine gy rfl <| vl (fa underlying98 rfl Ty.z3 rfl) <| gy rfl <| vl (ldO hK Ty.o3 0 rfl rfl rfl) <| gy rfl <| vl (ge rfl rfl) <| gy rfl <| vl (mB rfl) <| ?_
    refine splP (t := 27) rfl (fun h3 => ?_) fun h3 => ?_
    ·refine gy rfl <| vl mv <| gy rfl <| vl (fa underlying98 rfl Ty.z3 rfl) <| gy rfl <| vl (ldO hK Ty.o3 0 rfl rfl rfl) <| gy rfl <| ?_
     refine cl call98 rfl (l3Find_c hK hv) ?_
     rintro _ w ⟨rfl, hK⟩
     refine gy rfl <| vl (ge rfl rfl) <| gy rfl <| vl (pk rfl) <| gy rfl <| vl (mB rfl) <| ?_
     refine splP (t := 34) rfl (fun h4 => ?_) fun h4 => ?_
     ·have h4' := fI_ge.1 h4
      have h9 : rs[i].2.1 ≠ -1 := by omega
      refine gy rfl <| vl (fa underlying98 rfl Ty.z3 rfl) <| gy rfl <| vl (ldO hK Ty.o3 0 rfl rfl rfl) <| gy rfl <| vl (mI rfl) <| gy rfl <| vl (fa underlying98 rfl Ty.z3 rfl) <| gy rfl <| vl (ldO hK Ty.o3 0 rfl rfl rfl) <| gy rfl <| ?_
      refine cl call143 rfl (l1Between_c (C := fun w => K e w G ((b8, row (rc rs[i]) 98) :: L)) hK) ?_
      rintro _ w ⟨rfl, hK⟩
      refine gy rfl <| vl (ntB rfl) <| gy rfl <| vl (pk rfl) <| vl (pk rfl) <| nl <| ctn <| ?_
      exact ⟨_, ⟨rfl, rfl, rfl, rfl, rfl, trivial⟩, by simp [h1', h2, h4', h9, hid], hK⟩
     ·have h4' : rs[i].2.1 ∉ ids (rgl rs) := fun h => h4 (fI_ge.2 h)
      refine gn rfl <| gn rfl <| gn rfl <| gn rfl <| gn rfl <| gn rfl <| gn rfl <| gy rfl <| vl (pk rfl) <| vl (pk rfl) <| nl <| ctn <| ?_
      exact ⟨_, ⟨rfl, rfl, rfl, rfl, rfl, trivial⟩, by simp [h1', h2, h4'], hK⟩
    ·have h3' : rs[i].2.1 = -1 := by omega
     refine gn rfl <| gn rfl <| gn rfl <| gn rfl <| gn rfl <| gy rfl <| vl (pk rfl) <| gy rfl <| vl (mB rfl) <| gn rfl <| gn rfl <| gn rfl <| gn rfl <| gn rfl <| gn rfl <| gn rfl <| gy rfl <| vl (pk rfl) <| vl (pk rfl) <| nl <| ctn <| ?_
     exact ⟨_, ⟨rfl, rfl, rfl, rfl, rfl, trivial⟩, by simp [h1', h2, h3'], hK⟩
 ·rintro s g w ⟨hsb, hK⟩
  refine thn <| ?_
  rw [hb] at hsb
  refine cdB rfl (fun hq => ?_) fun hq => ?_
  ·refine sq <| rg <| ?_
   refine vl mv <| ?_
   refine cl call61 rfl (l3Copy_v hK hv hok) ?_
   rintro v1 w ⟨G1, rs1, hG, hr1, hv1, hK⟩
   refine vl asg <| vl (aB rfl) <| nl <| thn <| rt <| thr <| p2r (a := _) (b := .bool _) rfl rfl <| ?_
   refine ⟨G1, hG, ?_, hK.drop1⟩
   rw [notifyR_no fun h => hsb.1 hq h.2]
   exact RgA.mk hv1 hr1
  ·have hq' : other ≠ id ∧ other ∈ ids (rgl rs) ∧ ((ndAt (rgl rs) id).2.1 = -1 ∨ (ndAt (rgl rs) id).2.1 ∉ ids (rgl rs) ∨ btw (ndAt (rgl rs) id).2.1 other id = true) := Classical.not_not.1 fun h => by rw [hsb.2 h] at hq; cases hq
   refine sk <| thn <| sq <| rg <| ?_
   refine vl (mI rfl) <| vl (fa underlying98 rfl Ty.z3 rfl) <| ?_
   refine so hK Ty.i3 rfl 0 rfl rfl rfl rfl rfl ?_
   intro w hK
   refine nl <| thn <| sq <| rg <| vl mv <| vl (mI rfl) <| vl (lsO hK Ty.a98 Ty.s98 0 rfl rfl rfl) <| ?_
   refine cl call182 rfl (l4Set_c (x := (rs[i].1, other, rs[i].2.2.1, rs[i].2.2.2)) hK hv hok hi hx (by have := hal_of hok _ (List.getElem_mem hi); exact this)) ?_
   rintro v2 w ⟨G2, rs2, hG2, hr2, hv2, hK⟩
   refine vl asg <| vl (aB rfl) <| nl <| thn <| rt <| p2r (a := _) (b := .bool _) rfl rfl <| ?_
   refine ⟨G2, hG2, ?_, hK.drop1⟩
   rw [notifyR_yes ⟨hn.mem, hq'⟩]
   refine RgA.mk hv2 ?_
   rw [hr2]; unfold setN nd
   rw [hn.hfx, hn.hid]
   have : rs[i].2.2.2 = (ndAt (rgl rs) id).2.2 := by rw [← hn.hnd]; rfl
   rw [this]
theorem l4One_c (hK : K e w G L) (hv : RngS G v rs) :
  Ret prog 144 #[v, .int .i64 id] w (fun r w' => (∃ n b, r = .tuple #[.int .i64 n, .bool b] ∧ (b = true ↔ RgSafe (rgl rs) ∧ Pt id) ∧ (b = true → n = fI (rgl rs) id)) ∧ K e w' G L) := by
 refine enter2 (args := [v, .int .i64 id]) func144 rfl rfl rfl rfl ?_
 refine sq <| rg <| ?_
 refine vl (aI rfl) <| vl (aB rfl) <| nl <| thn <| sq <| sq <| rg <| vl mv <| ?_
 refine cl call72 rfl (specRingSafe_c hK hv) ?_
 rintro _ w ⟨rfl, hK⟩
 refine vl (ntB rfl) <| vl (mB rfl) <| ?_
 refine spl (t := 9) rfl (fun h1 => ?_) fun h1 => ?_
 ·have h1' := not_dec (Eq.mp (Bool.not_eq_true' _) h1)
  refine gn rfl <| gn rfl <| gn rfl <| vl (pk rfl) <| nl <| thn <| ?_
  refine cdt rfl ?_
  refine sq <| rg <| ?_
  refine vl (aI rfl) <| vl (aB rfl) <| nl <| thn <| rt <| thr <| p2r (a := .int _ _) (b := .bool _) rfl rfl <| ?_
  exact ⟨⟨_, _, rfl, by simp [h1'], by simp⟩, hK⟩
 ·have h1' := of_dec (Eq.mp (Bool.not_eq_false' _) h1)
  refine gy rfl <| vl (mI rfl) <| gy rfl <| ?_
  refine cl call99 rfl (l1Point_c (C := fun w => K _ w _ _) hK) ?_
  rintro _ w ⟨rfl, hK⟩
  refine gy rfl <| vl (nt rfl) <| vl (pk rfl) <| nl <| thn <| ?_
  refine cdP rfl (fun h2 => ?_) fun h2 => ?_
  ·refine sq <| rg <| ?_
   refine vl (aI rfl) <| vl (aB rfl) <| nl <| thn <| rt <| thr <| p2r (a := .int _ _) (b := .bool _) rfl rfl <| ?_
   exact ⟨⟨_, _, rfl, by simp; intro _; omega, by simp⟩, hK⟩
  ·refine sk <| thn <| sq <| rg <| ?_
   refine vl mv <| vl (mI rfl) <| ?_
   refine cl call98 rfl (l3Find_c hK hv) ?_
   rintro _ w ⟨rfl, hK⟩
   refine vl (aI rfl) <| vl (aB rfl) <| nl <| thn <| rt <| p2r (a := .int _ _) (b := .bool _) rfl rfl <| ?_
   exact ⟨⟨_, _, rfl, by simp [h1']; omega, fun _ => rfl⟩, hK⟩
theorem specRingDrop_c (hK : K e w G L) (hv : RngS G v rs) : Ret prog 109 #[v, .int .i64 id] w (fun r w' => ∃ G', VLe G G' ∧ RgA G' r (tk (rgl rs) (Pt id) (dropR (rgl rs) id)) ∧ K e w' G' L) := by
 refine enter2 (args := [v, .int .i64 id]) func109 rfl rfl rfl rfl ?_
 refine sq <| rg <| ?_
 refine vl asg <| vl (aB rfl) <| nl <| thn <| sq <| rg <| vl mv <| vl (mI rfl) <| ?_
 refine cl call144 rfl (l4One_c hK hv) ?_
 rintro _ w ⟨⟨n, b, rfl, hb, hn⟩, hK⟩
 refine vl mv <| vl (ext rfl rfl) <| vl (ext rfl rfl) <| vl (aI rfl) <| vl (aB rfl) <| nl <| thn <| sq <| sq <| rg <| vl (mB rfl) <| vl (ntB rfl) <| nl <| thn <| ?_
 refine cdB rfl (fun h1 => ?_) fun h1 => ?_
 ·have h1' : b = false := Eq.mp (Bool.not_eq_true' _) h1
  refine sq <| rg <| ?_
  refine bs0 hK underlying25 Ty.i98 ?_
  intro b16 w hK
  refine vl asg <| vl (aB rfl) <| nl <| thn <| rt <| thr <| p2r (a := _) (b := .bool _) rfl rfl <| ?_
  rw [tk_no fun h => by have := hb.2 h; rw [h1'] at this; cases this]
  exact ⟨_, VLe.refl _, ⟨_, [], rfl, RngS.lit, rfl⟩, hK.drop1⟩
 ·have h1' : b = true := Eq.mp (Bool.not_eq_false' _) h1
  have hs := hb.1 h1'
  have hn' := hn h1'
  subst hn'
  refine sk <| thn <| sq <| sq <| rg <| ?_
  refine vl (mI rfl) <| vl (lt rfl rfl) <| nl <| thn <| ?_
  refine cdP rfl (fun hc => ?_) fun hc => ?_
  ·have hid : id ∉ ids (rgl rs) := fun h => by have := fI_ge.2 h; omega
   refine sq <| rg <| ?_
   refine vl mv <| ?_
   refine cl call61 rfl (l3Copy_v hK hv hs.1.1) ?_
   rintro v1 w ⟨G1, rs1, hG, hr1, hv1, hK⟩
   refine vl asg <| vl (aB rfl) <| nl <| thn <| rt <| thr <| p2r (a := _) (b := .bool _) rfl rfl <| ?_
   refine ⟨G1, hG, ?_, hK⟩
   rw [tk_ot ⟨hs.1, hs.2⟩, dropR_no fun h => hid h.1]
   exact RgA.mk hv1 hr1
  ·have hid : id ∈ ids (rgl rs) := fI_ge.1 (by omega)
   obtain ⟨i, hni⟩ := NdA.of hv hs.1.1 hid
   refine sk <| thn <| sq <| rg <| ?_
   refine vl mv <| vl (mI rfl) <| ?_
   rw [fI_in hid, hni.hfx]
   refine cl call145 rfl (l4Drop_c hK hv hs.1.1 hni) ?_
   rintro _ w ⟨G1, hG, ⟨v1, rs1, rfl, hv1, hr1⟩, hK⟩
   refine vl (ext rfl rfl) <| vl (ext rfl rfl) <| vl asg <| vl (aB rfl) <| nl <| thn <| rt <| p2r (a := _) (b := .bool _) rfl rfl <| ?_
   refine ⟨G1, hG, ?_, hK⟩
   rw [tk_ot ⟨hs.1, hs.2⟩]
   exact ⟨v1, rs1, rfl, hv1, hr1⟩
  
theorem specRingAdopt_c (hK : K e w G L) (hv : RngS G v rs) : Ret prog 110 #[v, .int .i64 id] w (fun r w' => ∃ G', VLe G G' ∧ RgA G' r (tk (rgl rs) (Pt id) (adoptR (rgl rs) id)) ∧ K e w' G' L) := by
 refine enter2 (args := [v, .int .i64 id]) func110 rfl rfl rfl rfl ?_
 refine sq <| rg <| ?_
 refine vl asg <| vl (aB rfl) <| nl <| thn <| sq <| rg <| vl mv <| vl (mI rfl) <| ?_
 refine cl call144 rfl (l4One_c hK hv) ?_
 rintro _ w ⟨⟨n, b, rfl, hb, hn⟩, hK⟩
 refine vl mv <| vl (ext rfl rfl) <| vl (ext rfl rfl) <| vl (aI rfl) <| vl (aB rfl) <| nl <| thn <| sq <| sq <| rg <| vl (mB rfl) <| vl (ntB rfl) <| nl <| thn <| ?_
 refine cdB rfl (fun h1 => ?_) fun h1 => ?_
 ·have h1' : b = false := Eq.mp (Bool.not_eq_true' _) h1
  refine sq <| rg <| ?_
  refine bs0 hK underlying25 Ty.i98 ?_
  intro b16 w hK
  refine vl asg <| vl (aB rfl) <| nl <| thn <| rt <| thr <| p2r (a := _) (b := .bool _) rfl rfl <| ?_
  rw [tk_no fun h => by have := hb.2 h; rw [h1'] at this; cases this]
  exact ⟨_, VLe.refl _, ⟨_, [], rfl, RngS.lit, rfl⟩, hK.drop1⟩
 ·have h1' : b = true := Eq.mp (Bool.not_eq_false' _) h1
  have hs := hb.1 h1'
  have hn' := hn h1'
  subst hn'
  refine sk <| thn <| sq <| sq <| rg <| ?_
  refine vl (mI rfl) <| vl (lt rfl rfl) <| nl <| thn <| ?_
  refine cdP rfl (fun hc => ?_) fun hc => ?_
  ·have hid : id ∉ ids (rgl rs) := fun h => by have := fI_ge.2 h; omega
   refine sq <| rg <| ?_
   refine vl mv <| ?_
   refine cl call61 rfl (l3Copy_v hK hv hs.1.1) ?_
   rintro v1 w ⟨G1, rs1, hG, hr1, hv1, hK⟩
   refine vl asg <| vl (aB rfl) <| nl <| thn <| rt <| thr <| p2r (a := _) (b := .bool _) rfl rfl <| ?_
   refine ⟨G1, hG, ?_, hK⟩
   rw [tk_ot ⟨hs.1, hs.2⟩, adoptR_no fun h => hid h.1]
   exact RgA.mk hv1 hr1
  ·have hid : id ∈ ids (rgl rs) := fI_ge.1 (by omega)
   obtain ⟨i, hni⟩ := NdA.of hv hs.1.1 hid
   refine sk <| thn <| sq <| rg <| ?_
   refine vl mv <| vl (mI rfl) <| ?_
   rw [fI_in hid, hni.hfx]
   refine cl call146 rfl (l4Adopt_c hK hv hs.1.1 hni) ?_
   rintro _ w ⟨G1, hG, ⟨v1, rs1, rfl, hv1, hr1⟩, hK⟩
   refine vl (ext rfl rfl) <| vl (ext rfl rfl) <| vl asg <| vl (aB rfl) <| nl <| thn <| rt <| p2r (a := _) (b := .bool _) rfl rfl <| ?_
   refine ⟨G1, hG, ?_, hK⟩
   rw [tk_ot ⟨hs.1, hs.2⟩]
   exact ⟨v1, rs1, rfl, hv1, hr1⟩
  
theorem specRingCloser_c (hK : K e w G L) (hv : RngS G v rs) : Ret prog 111 #[v, .int .i64 id, .int .i64 other] w (fun r w' => ∃ G', VLe G G' ∧ RgA G' r (tk (rgl rs) (Pt id ∧ Pt other) (closerR (rgl rs) id other)) ∧ K e w' G' L) := by
 refine enter2 (args := [v, .int .i64 id, .int .i64 other]) func111 rfl rfl rfl rfl ?_
 refine sq <| rg <| ?_
 refine vl asg <| vl (aB rfl) <| nl <| thn <| sq <| rg <| vl mv <| vl (mI rfl) <| ?_
 refine cl call144 rfl (l4One_c hK hv) ?_
 rintro _ w ⟨⟨n, b, rfl, hb, hn⟩, hK⟩
 refine vl mv <| vl (ext rfl rfl) <| vl (ext rfl rfl) <| vl (aI rfl) <| vl (aB rfl) <| nl <| thn <| sq <| sq <| rg <| vl (mB rfl) <| vl (ntB rfl) <| vl (mB rfl) <| ?_
 refine spl (t := 18) rfl (fun h1 => ?_) fun h1 => ?_
 ·have h1' : b = false := Eq.mp (Bool.not_eq_true' _) h1
  refine gn rfl <| gn rfl <| gn rfl <| vl (pk rfl) <| nl <| thn <| ?_
  refine cdt rfl ?_
  refine sq <| rg <| ?_
  refine bs0 hK underlying25 Ty.i98 ?_
  intro b23 w hK
  refine vl asg <| vl (aB rfl) <| nl <| thn <| rt <| thr <| p2r (a := _) (b := .bool _) rfl rfl <| ?_
  rw [tk_no fun h => by have := hb.2 ⟨h.1, h.2.1⟩; rw [h1'] at this; cases this]
  exact ⟨_, VLe.refl _, ⟨_, [], rfl, RngS.lit, rfl⟩, hK.drop1⟩
 ·have h1' : b = true := Eq.mp (Bool.not_eq_false' _) h1
  have hs := hb.1 h1'
  have hn' := hn h1'
  subst hn'
  refine gy rfl <| vl (mI rfl) <| gy rfl <| ?_
  refine cl call99 rfl (l1Point_c (C := fun w => K _ w _ _) hK) ?_
  rintro _ w ⟨rfl, hK⟩
  refine gy rfl <| vl (nt rfl) <| vl (pk rfl) <| nl <| thn <| ?_
  refine cdP rfl (fun h2 => ?_) fun h2 => ?_
  ·refine sq <| rg <| ?_
   refine bs0 hK underlying25 Ty.i98 ?_
   intro b23 w hK
   refine vl asg <| vl (aB rfl) <| nl <| thn <| rt <| thr <| p2r (a := _) (b := .bool _) rfl rfl <| ?_
   rw [tk_no fun h => h2 h.2.2]
   exact ⟨_, VLe.refl _, ⟨_, [], rfl, RngS.lit, rfl⟩, hK.drop1⟩
  ·have hp : Pt other := Decidable.not_not.1 h2
   refine sk <| thn <| sq <| sq <| rg <| ?_
   refine vl (mI rfl) <| vl (lt rfl rfl) <| nl <| thn <| ?_
   refine cdP rfl (fun hc => ?_) fun hc => ?_
   ·have hid : id ∉ ids (rgl rs) := fun h => by have := fI_ge.2 h; omega
    refine sq <| rg <| ?_
    refine vl mv <| ?_
    refine cl call61 rfl (l3Copy_v hK hv hs.1.1) ?_
    rintro v1 w ⟨G1, rs1, hG, hr1, hv1, hK⟩
    refine vl asg <| vl (aB rfl) <| nl <| thn <| rt <| thr <| p2r (a := _) (b := .bool _) rfl rfl <| ?_
    refine ⟨G1, hG, ?_, hK⟩
    rw [tk_ot ⟨hs.1, ⟨hs.2, hp⟩⟩, closerR_no fun h => hid h.1]
    exact RgA.mk hv1 hr1
   ·have hid : id ∈ ids (rgl rs) := fI_ge.1 (by omega)
    obtain ⟨i, hni⟩ := NdA.of hv hs.1.1 hid
    refine sk <| thn <| sq <| rg <| ?_
    refine vl mv <| vl (mI rfl) <| vl (mI rfl) <| ?_
    rw [fI_in hid, hni.hfx]
    refine cl call147 rfl (l4Closer_c hK hv hs.1.1 hni) ?_
    rintro _ w ⟨G1, hG, ⟨v1, rs1, rfl, hv1, hr1⟩, hK⟩
    refine vl (ext rfl rfl) <| vl (ext rfl rfl) <| vl asg <| vl (aB rfl) <| nl <| thn <| rt <| p2r (a := _) (b := .bool _) rfl rfl <| ?_
    refine ⟨G1, hG, ?_, hK⟩
    rw [tk_ot ⟨hs.1, ⟨hs.2, hp⟩⟩]
    exact ⟨v1, rs1, rfl, hv1, hr1⟩
   
theorem specRingNotify_c (hK : K e w G L) (hv : RngS G v rs) : Ret prog 112 #[v, .int .i64 id, .int .i64 other] w (fun r w' => ∃ G', VLe G G' ∧ RgA G' r (tk (rgl rs) (Pt id ∧ Pt other) (notifyR (rgl rs) id other)) ∧ K e w' G' L) := by
 refine enter2 (args := [v, .int .i64 id, .int .i64 other]) func112 rfl rfl rfl rfl ?_
 refine sq <| rg <| ?_
 refine vl asg <| vl (aB rfl) <| nl <| thn <| sq <| rg <| vl mv <| vl (mI rfl) <| ?_
 refine cl call144 rfl (l4One_c hK hv) ?_
 rintro _ w ⟨⟨n, b, rfl, hb, hn⟩, hK⟩
 refine vl mv <| vl (ext rfl rfl) <| vl (ext rfl rfl) <| vl (aI rfl) <| vl (aB rfl) <| nl <| thn <| sq <| sq <| rg <| vl (mB rfl) <| vl (ntB rfl) <| vl (mB rfl) <| ?_
 refine spl (t := 18) rfl (fun h1 => ?_) fun h1 => ?_
 ·have h1' : b = false := Eq.mp (Bool.not_eq_true' _) h1
  refine gn rfl <| gn rfl <| gn rfl <| vl (pk rfl) <| nl <| thn <| ?_
  refine cdt rfl ?_
  refine sq <| rg <| ?_
  refine bs0 hK underlying25 Ty.i98 ?_
  intro b23 w hK
  refine vl asg <| vl (aB rfl) <| nl <| thn <| rt <| thr <| p2r (a := _) (b := .bool _) rfl rfl <| ?_
  rw [tk_no fun h => by have := hb.2 ⟨h.1, h.2.1⟩; rw [h1'] at this; cases this]
  exact ⟨_, VLe.refl _, ⟨_, [], rfl, RngS.lit, rfl⟩, hK.drop1⟩
 ·have h1' : b = true := Eq.mp (Bool.not_eq_false' _) h1
  have hs := hb.1 h1'
  have hn' := hn h1'
  subst hn'
  refine gy rfl <| vl (mI rfl) <| gy rfl <| ?_
  refine cl call99 rfl (l1Point_c (C := fun w => K _ w _ _) hK) ?_
  rintro _ w ⟨rfl, hK⟩
  refine gy rfl <| vl (nt rfl) <| vl (pk rfl) <| nl <| thn <| ?_
  refine cdP rfl (fun h2 => ?_) fun h2 => ?_
  ·refine sq <| rg <| ?_
   refine bs0 hK underlying25 Ty.i98 ?_
   intro b23 w hK
   refine vl asg <| vl (aB rfl) <| nl <| thn <| rt <| thr <| p2r (a := _) (b := .bool _) rfl rfl <| ?_
   rw [tk_no fun h => h2 h.2.2]
   exact ⟨_, VLe.refl _, ⟨_, [], rfl, RngS.lit, rfl⟩, hK.drop1⟩
  ·have hp : Pt other := Decidable.not_not.1 h2
   refine sk <| thn <| sq <| sq <| rg <| ?_
   refine vl (mI rfl) <| vl (lt rfl rfl) <| nl <| thn <| ?_
   refine cdP rfl (fun hc => ?_) fun hc => ?_
   ·have hid : id ∉ ids (rgl rs) := fun h => by have := fI_ge.2 h; omega
    refine sq <| rg <| ?_
    refine vl mv <| ?_
    refine cl call61 rfl (l3Copy_v hK hv hs.1.1) ?_
    rintro v1 w ⟨G1, rs1, hG, hr1, hv1, hK⟩
    refine vl asg <| vl (aB rfl) <| nl <| thn <| rt <| thr <| p2r (a := _) (b := .bool _) rfl rfl <| ?_
    refine ⟨G1, hG, ?_, hK⟩
    rw [tk_ot ⟨hs.1, ⟨hs.2, hp⟩⟩, notifyR_no fun h => hid h.1]
    exact RgA.mk hv1 hr1
   ·have hid : id ∈ ids (rgl rs) := fI_ge.1 (by omega)
    obtain ⟨i, hni⟩ := NdA.of hv hs.1.1 hid
    refine sk <| thn <| sq <| rg <| ?_
    refine vl mv <| vl (mI rfl) <| vl (mI rfl) <| ?_
    rw [fI_in hid, hni.hfx]
    refine cl call148 rfl (l4Notify_c hK hv hs.1.1 hni hp) ?_
    rintro _ w ⟨G1, hG, ⟨v1, rs1, rfl, hv1, hr1⟩, hK⟩
    refine vl (ext rfl rfl) <| vl (ext rfl rfl) <| vl asg <| vl (aB rfl) <| nl <| thn <| rt <| p2r (a := _) (b := .bool _) rfl rfl <| ?_
    refine ⟨G1, hG, ?_, hK⟩
    rw [tk_ot ⟨hs.1, ⟨hs.2, hp⟩⟩]
    exact ⟨v1, rs1, rfl, hv1, hr1⟩
   
end
end Go.Proofs.YtmgggljicpmndaaGreatDoor
