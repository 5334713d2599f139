/- Contracts of the program's steps of a ring: failing and joining; in new memory. Conditions: those that each row states. -/
import Derived.Test.YtmgggljicpmndaaGreatDoorRv
import Derived.Test.YtmgggljicpmndaaGreatDoorXr2
namespace Go.Proofs.YtmgggljicpmndaaGreatDoor
open Go Go.Ro Tryz
section
variable {e w : World} {G G0 : View} {L A : Own} {v u : Value} {xs ys ks : List Int} {ls : List Ls} {rs qs : List Rn} {a b k id other at' : Int} {i j sb bk : Nat}
theorem failStepF_c (hsf : RgSafe (rgl rs)) (_ : VLe G0 G) (hnf : RnF 3 G0 G rs) (ho : OR G 98 v rs A) (hK : K e w G ((sb, row [v] 206) :: (A ++ L))) :
  Ret prog 206 #[.pointer (some ⟨sb, 0, none⟩), .int .i64 id, .int .i64 other] w (StpF e G0 G 98 3 206 sb L (failR (rgl rs) id)) := by
 obtain ⟨Gf, hGf, hR, hsb, hK, hback⟩ := ho.all hK
 have hs := hR.sl
 have hrl : rs.length ≤ 10 := by have := hsf.1.1; rwa [rg_len] at this
 refine enter1 (args := [.pointer (some ⟨sb, 0, none⟩), .int .i64 id, .int .i64 other]) func206 rfl rfl rfl rfl ?_
 refine sq <| rg <| ?_
 refine bx hK rfl rfl ?_
 intro b4 w hK
 refine vl (aB rfl) <| nl <| thn <| sq <| sq <| ?_
 refine rgq (fun w => K _ w _ _) Ty.mixed kr (hK.drawn _) ?_
 refine qv (fun w hK => mv) <| qv (fun w hK => (nc rfl)) <| qv (fun w hK => (fa underlying206 rfl Ty.z25 rfl)) <| qldV Ty.o25 rfl hsb <| qldO Ty.o3 0 rfl rfl rfl <| ?_
 by_cases hm : id ∈ ids (rgl rs)
 ·obtain ⟨i, hn⟩ := NdA.of' hR hsf hm
  refine qcl call134 rfl (fun w hK => nodeAt_in hK hR hn) ?_
  refine qv (fun w hK => (eqPn underlying143 rfl rfl)) <| qn <| ?_
  intro w hK
  refine thn <| ?_
  refine cdB rfl (fun h2 => ?_) fun h2 => ?_
  ·cases h2
  ·have _ := trivial
   refine sk <| thn <| sq <| rg <| ?_
   refine vl mv <| vl mv <| vl (nc rfl) <| vl (fa underlying206 rfl Ty.z25 rfl) <| vl (ldV hK Ty.o25 rfl hsb) <| vl (mkf rfl) <| ?_
   replace hK : K e w G (A ++ ((sb, row [v] 206) :: (b4, row [.int .i64 id] 3) :: L)) := K.mid (A := [_]) (B := A) (hback _ _ hK)
   refine cl call225 rfl (deleteFuncN_c (F := 226) (cap := [.pointer (some ⟨b4, 0, none⟩)]) (q := fun x => decide (x.1 = id)) call226 hK ho om (fun G x w h1 hK => fail1_c (t := 3) hK (by simp) h1)) ?_
   rintro v20 w ⟨A2, ho2, hK⟩
   replace hK : K e w G ((sb, row [v] 206) :: (A2 ++ ((b4, row [.int .i64 id] 3) :: L))) := K.back1 hK
   refine vl (nc rfl) <| vl (fa underlying206 rfl Ty.z25 rfl) <| ?_
   refine so hK Ty.i25 rfl 0 rfl rfl rfl ho2.os.one rfl ?_
   intro w hK
   refine nl <| thn <| sq <| rg <| vl mv <| vl (nc rfl) <| vl (fa underlying206 rfl Ty.z25 rfl) <| vl (ldO hK Ty.o25 0 rfl rfl rfl) <| ?_
   replace hK : K e w G ((sb, row [v20] 206) :: (A2 ++ ((b4, row [.int .i64 id] 3) :: L))) := hK
   have hall := ho2.all hK
   clear hK
   obtain ⟨Gf2, hGf2, hR2, hsb2, hK, hback2⟩ := hall
   refine cl call83 rfl (implRingSafe_c hK hR2) ?_
   rintro _ w ⟨rfl, hK⟩
   refine vl (aB rfl) <| nl <| thn <| rt <| p1r (a := .bool _) rfl <| ?_
   by_cases hsafe : RgSafe ((rgl rs).filter (fun x => decide (x.1 ≠ id)))
   ·exact .inr ⟨G, v20, _, A2, congrArg Value.bool (dec_t (by rw [rgl_filter]; exact hsafe)), by unfold failR; rw [if_pos ⟨hm, dec_t hsafe⟩, rgl_filter], VLe.refl _, ho2, hnf.sub List.filter_sublist, hback2 _ _ hK.drop1⟩
   ·exact .inl ⟨congrArg Value.bool (dec_f (by rw [rgl_filter]; exact hsafe)), if_neg (fun h => hsafe (of_dec h.2)), (hback2 _ _ hK.drop1).drop1.dropL'⟩
 ·skip
  refine qcl call134 rfl (fun w hK => nodeAt_no hK hR hm) ?_
  refine qv (fun w hK => (eqPn underlying143 rfl rfl)) <| qn <| ?_
  intro w hK
  refine thn <| ?_
  refine cdB rfl (fun h1 => ?_) fun h1 => ?_
  ·refine sq <| rg <| ?_
   refine vl (aB rfl) <| nl <| thn <| rt <| thr <| p1r (a := .bool _) rfl <| ?_
   exact .inl ⟨rfl, if_neg fun h => hm h.1, (hback _ _ hK.drop1).drop1.dropL'⟩
  ·cases h1
set_option maxHeartbeats 2000000 in
theorem joinStepF_c (hsf : RgSafe (rgl rs)) (hid : Pt id) (hat : Pt at') (hG0 : VLe G0 G) (hnf : RnF 3 G0 G rs) (ho : OR G 98 v rs A) (hK : K e w G ((sb, row [v] 206) :: (A ++ L))) :
  Ret prog 204 #[.pointer (some ⟨sb, 0, none⟩), .int .i64 id, .int .i64 at'] w (StpF e G0 G 98 3 206 sb L (joinR (rgl rs) id at')) := by
 obtain ⟨Gf, hGf, hR, hsb, hK, hback⟩ := ho.all hK
 have hs := hR.sl
 have hrl : rs.length ≤ 10 := by have := hsf.1.1; rwa [rg_len] at this
 have hrle : (rgl rs).length = rs.length := rg_len rs
 have hpw : rs.Pairwise (fun a b => a.1 < b.1) := by have := hsf.1.2.2; unfold rgl at this; exact (List.pairwise_map (f := nd) (R := fun a b : Nd => a.1 < b.1)).1 this
 have hpt : ∀ x ∈ rs, Pt x.1 := fun x hx => (hsf.1.2.1 (nd x) (List.mem_map.2 ⟨x, hx, rfl⟩)).1
 refine enter1 (args := [.pointer (some ⟨sb, 0, none⟩), .int .i64 id, .int .i64 at']) func204 rfl rfl rfl rfl ?_
 refine sq <| rg <| ?_
 refine vl (aB rfl) <| nl <| thn <| sq <| rg <| vl mv <| vl (nc rfl) <| vl (fa underlying206 rfl Ty.z25 rfl) <| vl (ldV hK Ty.o25 rfl hsb) <| vl (mI rfl) <| ?_
 by_cases hm2 : at' ∈ ids (rgl rs)
 ·obtain ⟨i, hn⟩ := NdA.of' hR hsf hm2
  have hi := hn.lt
  have hxf := hn.aft
  have hal := hn.len
  have hc0 : cellV Gf (elA rs[i].2.2.1 0) = some (.int .i64 (a0 (ndAt (rgl rs) at'))) := by rw [← hn.ha0]; exact hxf.at _
  refine cl call134 rfl (nodeAt_in hK hR hn) ?_
  rintro _ w ⟨rfl, hK⟩
  refine vl asg <| nl <| thn <| sq <| sq <| rg <| vl mv <| vl (nc rfl) <| vl (fa underlying206 rfl Ty.z25 rfl) <| vl (ldV hK Ty.o25 rfl hsb) <| vl (mI rfl) <| ?_
  by_cases hm : id ∈ ids (rgl rs)
  ·obtain ⟨j, hn1⟩ := NdA.of' hR hsf hm
   refine cl call134 rfl (nodeAt_in hK hR hn1) ?_
   rintro _ w ⟨rfl, hK⟩
   refine vl (nePn underlying143 rfl rfl) <| vl (mB rfl) <| ?_
   refine spl (t := 24) rfl (fun h1 => ?_) fun h1 => ?_
   ·refine gn rfl <| gn rfl <| vl (pk rfl) <| vl (mB rfl) <| gn rfl <| gn rfl <| gn rfl <| gn rfl <| gn rfl <| gn rfl <| vl (pk rfl) <| vl (mB rfl) <| gn rfl <| gn rfl <| gn rfl <| gn rfl <| gn rfl <| gn rfl <| gn rfl <| gn rfl <| gn rfl <| gn rfl <| vl (pk rfl) <| nl <| thn <| ?_
    refine cdt rfl ?_
    refine sq <| rg <| ?_
    refine vl (aB rfl) <| nl <| thn <| rt <| thr <| p1r (a := .bool _) rfl <| ?_
    exact .inl ⟨rfl, joinR_no fun h => h.1 hm, (hback _ _ hK).drop1.dropL'⟩
   ·cases h1
  ·skip
   refine cl call134 rfl (nodeAt_no hK hR hm) ?_
   rintro _ w ⟨rfl, hK⟩
   refine vl (nePn underlying143 rfl rfl) <| vl (mB rfl) <| ?_
   refine spl (t := 24) rfl (fun h1 => ?_) fun h1 => ?_
   ·cases h1
   ·refine gy rfl <| vl mv <| gy rfl <| vl (eqPn underlying143 rfl rfl) <| vl (pk rfl) <| vl (mB rfl) <| ?_
    refine spl (t := 28) rfl (fun h2 => ?_) fun h2 => ?_
    ·cases h2
    ·refine gy rfl <| vl mv <| gy rfl <| vl (nc rfl) <| gy rfl <| vl (fa underlying206 rfl Ty.z25 rfl) <| gy rfl <| vl (ldV hK Ty.o25 rfl hsb) <| gy rfl <| vl (ln underlying25 rfl hs.len) <| gy rfl <| vl (eq rfl rfl) <| vl (pk rfl) <| vl (mB rfl) <| ?_
     refine splP (t := 36) rfl (fun h3 => ?_) fun h3 => ?_
     ·refine gn rfl <| gn rfl <| gn rfl <| gn rfl <| gn rfl <| gn rfl <| gn rfl <| gn rfl <| gn rfl <| gn rfl <| vl (pk rfl) <| nl <| thn <| ?_
      refine cdt rfl ?_
      refine sq <| rg <| ?_
      refine vl (aB rfl) <| nl <| thn <| rt <| thr <| p1r (a := .bool _) rfl <| ?_
      exact .inl ⟨rfl, joinR_no fun h => h.2.2.1 (by omega), (hback _ _ hK).drop1.dropL'⟩
     ·refine gy rfl <| vl (mI rfl) <| gy rfl <| vl (mI rfl) <| gy rfl <| vl mv <| gy rfl <| vl (nc rfl) <| gy rfl <| vl (fe underlying98 rfl Ty.z22 rfl hs.1 om) <| gy rfl <| vl (ldV hK Ty.o22 rfl (hs.cell om 2 rfl)) <| gy rfl <| vl (ixn1 underlying22 Ty.s3 rfl hxf.1 rfl om) <| gy rfl <| vl (ldV hK Ty.o3 rfl hc0) <| gy rfl <| ?_
      refine cl call216 rfl (CircleBetween_c hK hat hid hn.pa0) ?_
      rintro _ w ⟨rfl, hK⟩
      refine gy rfl <| vl (ntB rfl) <| vl (pk rfl) <| nl <| thn <| ?_
      refine cdB rfl (fun h4 => ?_) fun h4 => ?_
      ·refine sq <| rg <| ?_
       refine vl (aB rfl) <| nl <| thn <| rt <| thr <| p1r (a := .bool _) rfl <| ?_
       exact .inl ⟨rfl, joinR_no fun h => by rw [h.2.2.2] at h4; simp at h4, (hback _ _ hK).drop1.dropL'⟩
      ·have h4' : btw at' id (a0 (ndAt (rgl rs) at')) = true := by simpa using h4
       refine sk <| thn <| sq <| rg <| ?_
       refine vl (mI rfl) <| vl (mI rfl) <| vl mv <| vl (nc rfl) <| vl (fe underlying98 rfl Ty.z22 rfl hs.1 om) <| vl (ldV hK Ty.o22 rfl (hs.cell om 2 rfl)) <| ?_
       refine cl call95 rfl (clone_c hK hxf om) ?_
       rintro v54 w ⟨A3, ho3, hK⟩
       replace hK : K e w G ((sb, row [v] 206) :: (A ++ (A3 ++ L))) := hback _ _ hK
       replace hK : K _ _ _ (A3 ++ ((sb, row [v] 206) :: (A ++ L))) := hK.reo
       have hpub := K.pubOF hK ho3 hG0
       clear hK ho3
       obtain ⟨G1, hG1, hx54, hxn, hxb, hK⟩ := hpub
       have hO1 := ho.mono hG1
       have hX1 : (rc (id, at', v54, rs[i].2.2.2)).all Ro.one = true := allc rfl (allc rfl (allc hx54.1.one rfl))
       have hJ : ∀ (p : Nat) (b : Bool), BsR (fun x : Rn => x.1) rs id p b → joinR (rgl rs) id at' = some (rgl (rs.take p ++ (id, at', v54, rs[i].2.2.2) :: rs.drop p)) := fun p b hb => by
        rw [joinR_yes ⟨hm, hm2, by omega, h4'⟩, rgl_ins hb, ← hn.hnd]; rfl
       have hXl : ∀ p : Nat, p ≤ rs.length → (rs.take p ++ (id, at', v54, rs[i].2.2.2) :: rs.drop p).length = rs.length + 1 := fun p hp => by simp only [List.length_append, List.length_cons, List.length_take, List.length_drop]; omega
       have hXa : ∀ p : Nat, ∀ x ∈ rs.take p ++ (id, at', v54, rs[i].2.2.2) :: rs.drop p, IntS G1 x.2.2.1 x.2.2.2 := fun p x hx => by
        rcases List.mem_append.1 hx with hx | hx
        ·exact hO1.aft x (List.mem_of_mem_take hx)
        ·rcases List.mem_cons.1 hx with rfl | hx
         ·exact hx54
         ·exact hO1.aft x (List.mem_of_mem_drop hx)
       refine vl (bd [(0, _), (1, _), (2, _)] Ty.p98 Ty.i98 rfl ⟨⟨rfl, rfl⟩, ⟨rfl, rfl⟩, ⟨rfl, one_cells (SlW.one hx54.1)⟩, trivial⟩ rfl) <| ?_
       refine al hK Ty.i98 rfl ?_
       intro b8 w hK
       refine soS hK Ty.i98 0 rfl rfl rfl rfl hX1 rfl ?_
       intro w hK
       refine nl <| thn <| sq <| rg <| vl mv <| vl (nc rfl) <| vl (fa underlying206 rfl Ty.z25 rfl) <| vl (ldO hK Ty.o25 1 rfl rfl rfl) <| vl (mI rfl) <| ?_
       replace hK : K e w G1 ((b8, row (rc (id, at', v54, rs[i].2.2.2)) 98) :: (sb, row [v] 206) :: (A ++ L)) := hK
       have hK1 : K e w G1 ((sb, row [v] 206) :: (A ++ ((b8, row (rc (id, at', v54, rs[i].2.2.2)) 98) :: L))) := hK.reo
       have hall := hO1.all hK1
       clear hK hK1
       obtain ⟨Gf2, hGf2, hR2, hsb2, hK, hback2⟩ := hall
       refine cl call222 rfl (bsearchN_c (cap := []) (key := fun x : Rn => x.1) call223 hK hR2.sl om hpw (fun x hx w hK => join1_c hK (hpt x hx) (hR2.aft x hx).1.one hid)) ?_
       rintro _ w ⟨⟨p, b, rfl, hbs⟩, hK⟩
       replace hK : K e w G1 ((sb, row [v] 206) :: (A ++ ((b8, row (rc (id, at', v54, rs[i].2.2.2)) 98) :: L))) := hback2 _ _ hK
       replace hK : K _ _ _ ((b8, row (rc (id, at', v54, rs[i].2.2.2)) 98) :: (sb, row [v] 206) :: (A ++ L)) := hK.reo
       refine vl mv <| vl (ext rfl rfl) <| vl (ext rfl rfl) <| vl (aI rfl) <| vl (aB rfl) <| nl <| thn <| sq <| ?_
       refine rgs (fun w => K e w G1 ((b8, row (rc (id, at', v54, rs[i].2.2.2)) 98) :: L)) (fun w => K _ w _ _) [U,U,U,U,U,U,U,U,U,U,U,U] 12 Ty.mixed rfl rfl (hK.drawn _) ?_
       intro w hK
       have hS : (fun w => K e w G1 ((b8, row (rc (id, at', v54, rs[i].2.2.2)) 98) :: L)) w := K.sl hK
       refine xt (i := 0) rfl kr rfl rfl (fun w hK => mv) hS <| xt (i := 1) rfl kr rfl rfl (fun w hK => mv) hS <| xt (i := 2) rfl kr rfl rfl (fun w hK => (nc rfl)) hS <| xt (i := 3) rfl kr rfl rfl (fun w hK => (fa underlying206 rfl Ty.z25 rfl)) hS <| xt (i := 5) rfl kr rfl rfl (fun w hK => (mI rfl)) hS <| xt (i := 6) rfl kr rfl rfl (fun w hK => (lsO hK Ty.a98 Ty.s98 0 rfl rfl rfl)) hS <| ?_
       refine xe2 (i := 4) (j := 7) kr rfl rfl rfl rfl ?_ ?_
       ·refine vl (ldO hK Ty.o25 1 rfl rfl rfl) <| ?_
        refine xnk (K.sl hK) fun hS => ?_
        refine xe (i := 7) kr rfl rfl ?_
        refine bsS1 hK underlying25 Ty.i98 rfl rfl rfl rfl rfl rfl ?_
        intro b72 w hK
        refine xnk (K.sl hK) fun hS => ?_
        refine xe (i := 8) kr rfl rfl ?_
        replace hK : K e w G1 ((b72, row (rc (id, at', v54, rs[i].2.2.2)) 98) :: (b8, row (rc (id, at', v54, rs[i].2.2.2)) 98) :: (sb, row [v] 206) :: (A ++ L)) := hK
        replace hK : K _ _ _ ((b72, row (rc (id, at', v54, rs[i].2.2.2)) 98) :: (A ++ ((b8, row (rc (id, at', v54, rs[i].2.2.2)) 98) :: (sb, row [v] 206) :: L))) := hK.reo
        refine cl call224 rfl (insertN_c (x := (id, at', v54, rs[i].2.2.2)) hK (.inl ho.os) hX1 (fun y hy => allc rfl (allc rfl (allc (hO1.aft y hy).1.one rfl))) hbs.1 om) ?_
        rintro v73 w ⟨A2, ho2, hK⟩
        replace hK : K _ _ _ ((b8, row (rc (id, at', v54, rs[i].2.2.2)) 98) :: (sb, row [v] 206) :: (A2 ++ L)) := hK.reo
        refine xnk (K.sl hK) fun hS => ?_
        refine xt (i := 9) rfl kr rfl rfl (fun w hK => (nc rfl)) hS <| xt (i := 10) rfl kr rfl rfl (fun w hK => (fa underlying206 rfl Ty.z25 rfl)) hS <| ?_
        refine xe (i := 11) kr rfl rfl ?_
        refine so hK Ty.i25 rfl 1 rfl rfl rfl ho2.one rfl ?_
        intro w hK
        refine xnk (K.sl hK) fun hS => ?_
        refine xd kr <| thn <| sq <| rg <| vl (aB rfl) <| nl <| thn <| rt <| p1r (a := .bool _) rfl <| ?_
        exact .inr ⟨G1, v73, rs.take p ++ (id, at', v54, rs[i].2.2.2) :: rs.drop p, A2, rfl, hJ p _ hbs, hG1, ⟨by rw [hXl p hbs.1]; exact ho2, hXa p⟩, RnF.ins (x := (id, at', v54, rs[i].2.2.2)) (by rw [List.take_append_drop]; exact hnf) hxn hG1 hxb, hK.drop1⟩
       ·refine bsS1 hK underlying25 Ty.i98 rfl rfl rfl rfl rfl rfl ?_
        intro b72 w hK
        refine xnk (K.sl hK) fun hS => ?_
        refine xe (i := 4) kr rfl rfl ?_
        refine vl (ldO hK Ty.o25 2 rfl rfl rfl) <| ?_
        refine xnk (K.sl hK) fun hS => ?_
        refine xe (i := 8) kr rfl rfl ?_
        replace hK : K e w G1 ((b72, row (rc (id, at', v54, rs[i].2.2.2)) 98) :: (b8, row (rc (id, at', v54, rs[i].2.2.2)) 98) :: (sb, row [v] 206) :: (A ++ L)) := hK
        replace hK : K _ _ _ ((b72, row (rc (id, at', v54, rs[i].2.2.2)) 98) :: (A ++ ((b8, row (rc (id, at', v54, rs[i].2.2.2)) 98) :: (sb, row [v] 206) :: L))) := hK.reo
        refine cl call224 rfl (insertN_c (x := (id, at', v54, rs[i].2.2.2)) hK (.inl ho.os) hX1 (fun y hy => allc rfl (allc rfl (allc (hO1.aft y hy).1.one rfl))) hbs.1 om) ?_
        rintro v73 w ⟨A2, ho2, hK⟩
        replace hK : K _ _ _ ((b8, row (rc (id, at', v54, rs[i].2.2.2)) 98) :: (sb, row [v] 206) :: (A2 ++ L)) := hK.reo
        refine xnk (K.sl hK) fun hS => ?_
        refine xt (i := 9) rfl kr rfl rfl (fun w hK => (nc rfl)) hS <| xt (i := 10) rfl kr rfl rfl (fun w hK => (fa underlying206 rfl Ty.z25 rfl)) hS <| ?_
        refine xe (i := 11) kr rfl rfl ?_
        refine so hK Ty.i25 rfl 1 rfl rfl rfl ho2.one rfl ?_
        intro w hK
        refine xnk (K.sl hK) fun hS => ?_
        refine xd kr <| thn <| sq <| rg <| vl (aB rfl) <| nl <| thn <| rt <| p1r (a := .bool _) rfl <| ?_
        exact .inr ⟨G1, v73, rs.take p ++ (id, at', v54, rs[i].2.2.2) :: rs.drop p, A2, rfl, hJ p _ hbs, hG1, ⟨by rw [hXl p hbs.1]; exact ho2, hXa p⟩, RnF.ins (x := (id, at', v54, rs[i].2.2.2)) (by rw [List.take_append_drop]; exact hnf) hxn hG1 hxb, hK.drop1⟩
 ·skip
  refine cl call134 rfl (nodeAt_no hK hR hm2) ?_
  rintro _ w ⟨rfl, hK⟩
  refine vl asg <| nl <| thn <| sq <| sq <| rg <| vl mv <| vl (nc rfl) <| vl (fa underlying206 rfl Ty.z25 rfl) <| vl (ldV hK Ty.o25 rfl hsb) <| vl (mI rfl) <| ?_
  by_cases hm : id ∈ ids (rgl rs)
  ·obtain ⟨j, hn1⟩ := NdA.of' hR hsf hm
   refine cl call134 rfl (nodeAt_in hK hR hn1) ?_
   rintro _ w ⟨rfl, hK⟩
   refine vl (nePn underlying143 rfl rfl) <| vl (mB rfl) <| ?_
   refine spl (t := 24) rfl (fun h1 => ?_) fun h1 => ?_
   ·refine gn rfl <| gn rfl <| vl (pk rfl) <| vl (mB rfl) <| gn rfl <| gn rfl <| gn rfl <| gn rfl <| gn rfl <| gn rfl <| vl (pk rfl) <| vl (mB rfl) <| gn rfl <| gn rfl <| gn rfl <| gn rfl <| gn rfl <| gn rfl <| gn rfl <| gn rfl <| gn rfl <| gn rfl <| vl (pk rfl) <| nl <| thn <| ?_
    refine cdt rfl ?_
    refine sq <| rg <| ?_
    refine vl (aB rfl) <| nl <| thn <| rt <| thr <| p1r (a := .bool _) rfl <| ?_
    exact .inl ⟨rfl, joinR_no fun h => h.1 hm, (hback _ _ hK).drop1.dropL'⟩
   ·cases h1
  ·skip
   refine cl call134 rfl (nodeAt_no hK hR hm) ?_
   rintro _ w ⟨rfl, hK⟩
   refine vl (nePn underlying143 rfl rfl) <| vl (mB rfl) <| ?_
   refine spl (t := 24) rfl (fun h1 => ?_) fun h1 => ?_
   ·cases h1
   ·refine gy rfl <| vl mv <| gy rfl <| vl (eqPn underlying143 rfl rfl) <| vl (pk rfl) <| vl (mB rfl) <| ?_
    refine spl (t := 28) rfl (fun h2 => ?_) fun h2 => ?_
    ·refine gn rfl <| gn rfl <| gn rfl <| gn rfl <| gn rfl <| gn rfl <| vl (pk rfl) <| vl (mB rfl) <| gn rfl <| gn rfl <| gn rfl <| gn rfl <| gn rfl <| gn rfl <| gn rfl <| gn rfl <| gn rfl <| gn rfl <| vl (pk rfl) <| nl <| thn <| ?_
     refine cdt rfl ?_
     refine sq <| rg <| ?_
     refine vl (aB rfl) <| nl <| thn <| rt <| thr <| p1r (a := .bool _) rfl <| ?_
     exact .inl ⟨rfl, joinR_no fun h => hm2 h.2.1, (hback _ _ hK).drop1.dropL'⟩
    ·cases h2
end
end Go.Proofs.YtmgggljicpmndaaGreatDoor
