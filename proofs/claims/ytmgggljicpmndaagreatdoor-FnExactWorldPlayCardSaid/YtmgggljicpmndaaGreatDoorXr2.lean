/- Contracts of the program's steps of a ring: leaving, following, telling; in new memory. Conditions: those that each row states. -/
import Derived.Test.YtmgggljicpmndaaGreatDoorRq
import Derived.Test.YtmgggljicpmndaaGreatDoorXr1
namespace Go.Proofs.YtmgggljicpmndaaGreatDoor
open Go Go.Ro Tryz
section
variable {e w : World} {G G0 : View} {L A : Own} {v u : Value} {xs ys ks : List Int} {ls : List Ls} {rs qs : List Rn} {a b k id other at' : Int} {i j sb bk : Nat}
theorem notifyStepF_c (hsf : RgSafe (rgl rs)) (hid : Pt id) (hot : Pt other) (_ : VLe G0 G) (hnf : RnF 3 G0 G rs) (ho : OR G 98 v rs A) (hK : K e w G ((sb, row [v] 206) :: (A ++ L))) :
  Ret prog 214 #[.pointer (some ⟨sb, 0, none⟩), .int .i64 id, .int .i64 other] w (StpF e G0 G 98 3 206 sb L (notifyR (rgl rs) id other)) := by
 obtain ⟨Gf, hGf, hR, hsb, hK, hback⟩ := ho.all hK
 have hs := hR.sl
 refine enter1 (args := [.pointer (some ⟨sb, 0, none⟩), .int .i64 id, .int .i64 other]) func214 rfl rfl rfl rfl ?_
 refine sq <| rg <| ?_
 refine vl (aB rfl) <| nl <| thn <| sq <| rg <| vl mv <| vl (nc rfl) <| vl (fa underlying206 rfl Ty.z25 rfl) <| vl (ldV hK Ty.o25 rfl hsb) <| vl (mI rfl) <| ?_
 by_cases hm : id ∈ ids (rgl rs)
 ·obtain ⟨i, hn⟩ := NdA.of' hR hsf hm
  have hi := hn.lt
  have hnb := hn.bef
  refine cl call134 rfl (nodeAt_in hK hR hn) ?_
  rintro _ w ⟨rfl, hK⟩
  refine vl asg <| nl <| thn <| sq <| sq <| rg <| vl mv <| vl (eqPn underlying143 rfl rfl) <| vl (mB rfl) <| ?_
  refine spl (t := 16) rfl (fun h1 => ?_) fun h1 => ?_
  ·cases h1
  ·have _ := trivial
   refine gy rfl <| vl (mI rfl) <| gy rfl <| vl (mI rfl) <| gy rfl <| vl (eq rfl rfl) <| vl (pk rfl) <| vl (mB rfl) <| ?_
   refine splP (t := 21) rfl (fun h2 => ?_) fun h2 => ?_
   ·refine gn rfl <| gn rfl <| gn rfl <| gn rfl <| gn rfl <| gn rfl <| gn rfl <| vl (pk rfl) <| nl <| thn <| ?_
    refine cdt rfl ?_
    refine sq <| rg <| ?_
    refine vl (aB rfl) <| nl <| thn <| rt <| thr <| p1r (a := .bool _) rfl <| ?_
    exact .inl ⟨rfl, notifyR_no fun h => h.2.1 h2, (hback _ _ hK).drop1.dropL'⟩
   ·refine gy rfl <| vl mv <| gy rfl <| vl (nc rfl) <| gy rfl <| vl (fa underlying206 rfl Ty.z25 rfl) <| gy rfl <| vl (ldV hK Ty.o25 rfl hsb) <| gy rfl <| vl (mI rfl) <| gy rfl <| ?_
    by_cases hm2 : other ∈ ids (rgl rs)
    ·obtain ⟨j, hn2⟩ := NdA.of' hR hsf hm2
     refine cl call134 rfl (nodeAt_in hK hR hn2) ?_
     rintro _ w ⟨rfl, hK⟩
     refine gy rfl <| vl (eqPn underlying143 rfl rfl) <| vl (pk rfl) <| nl <| thn <| ?_
     refine cdB rfl (fun h3 => ?_) fun h3 => ?_
     ·cases h3
     ·have _ := trivial
      refine sk <| thn <| sq <| sq <| ?_
      refine ct (σ := Bool) (fun s => [(0, .pointer (some ⟨sb, 0, none⟩)), (1, .int .i64 id), (2, .int .i64 other), (7, .pointer (some (elA v (i * 3)))), (56, .bool s)]) (fun s w => (s = true ↔ ¬ ((ndAt (rgl rs) id).2.1 = -1 ∨ (ndAt (rgl rs) id).2.1 ∉ ids (rgl rs) ∨ btw (ndAt (rgl rs) id).2.1 other id = true)) ∧ K e w Gf L) ?_ ?_
      ·refine rgq (fun w => K _ w _ _) Ty.mixed kr (hK.drawn _) ?_
       refine qv (fun w hK => mv) <| qv (fun w hK => (nc rfl)) <| qv (fun w hK => (fe underlying98 rfl Ty.z3 rfl hs.1 om)) <| qldV Ty.o3 rfl (hs.cell om 1 rfl) <| qv (fun w hK => (ne rfl rfl)) <| qv (fun w hK => (mB rfl)) <| ?_
       refine qsplP (t := 35) rfl (fun h4 => ?_) fun h4 => ?_
       ·have hbp : Pt rs[i].2.1 := by rcases (rgOk_at hsf.1 hi).2.1 with h | h; exact absurd h h4; exact h
        refine qgy rfl <| qv (fun w hK => mv) <| qgy rfl <| qv (fun w hK => (nc rfl)) <| qgy rfl <| qv (fun w hK => (fa underlying206 rfl Ty.z25 rfl)) <| qgy rfl <| qldV Ty.o25 rfl hsb <| qgy rfl <| qv (fun w hK => mv) <| qgy rfl <| qv (fun w hK => (nc rfl)) <| qgy rfl <| qv (fun w hK => (fe underlying98 rfl Ty.z3 rfl hs.1 om)) <| qgy rfl <| qldV Ty.o3 rfl (hs.cell om 1 rfl) <| qgy rfl <| ?_
        by_cases hm3 : rs[i].2.1 ∈ ids (rgl rs)
        ·obtain ⟨j3, hn3⟩ := NdA.of' hR hsf hm3
         refine qcl call134 rfl (fun w hK => nodeAt_in hK hR hn3) ?_
         refine qgy rfl <| qv (fun w hK => (nePn underlying143 rfl rfl)) <| qv (fun w hK => (pk rfl)) <| qv (fun w hK => (mB rfl)) <| ?_
         refine qspl (t := 47) rfl (fun h5 => ?_) fun h5 => ?_
         ·refine qgy rfl <| qv (fun w hK => mv) <| qgy rfl <| qv (fun w hK => (nc rfl)) <| qgy rfl <| qv (fun w hK => (fe underlying98 rfl Ty.z3 rfl hs.1 om)) <| qgy rfl <| qldV Ty.o3 rfl (hs.cell om 1 rfl) <| qgy rfl <| qv (fun w hK => (mI rfl)) <| qgy rfl <| qv (fun w hK => (mI rfl)) <| qgy rfl <| ?_
          refine qcl call216 rfl (fun w hK => CircleBetween_c hK hbp hot hid) ?_
          refine qgy rfl <| qv (fun w hK => (ntB rfl)) <| qv (fun w hK => (pk rfl)) <| qn <| ?_
          intro w hK
          refine ctn <| ?_
          exact ⟨_, ⟨rfl, rfl, rfl, rfl, rfl, trivial⟩, by rw [← hnb]; simp [h4, hm3], hK⟩
         ·cases h5
        ·skip
         refine qcl call134 rfl (fun w hK => nodeAt_no hK hR hm3) ?_
         refine qgy rfl <| qv (fun w hK => (nePn underlying143 rfl rfl)) <| qv (fun w hK => (pk rfl)) <| qv (fun w hK => (mB rfl)) <| ?_
         refine qspl (t := 47) rfl (fun h5 => ?_) fun h5 => ?_
         ·cases h5
         ·have _ := trivial
          refine qgn rfl <| qgn rfl <| qgn rfl <| qgn rfl <| qgn rfl <| qgn rfl <| qgn rfl <| qgn rfl <| qv (fun w hK => (pk rfl)) <| qn <| ?_
          intro w hK
          refine ctn <| ?_
          exact ⟨_, ⟨rfl, rfl, rfl, rfl, rfl, trivial⟩, by rw [← hnb]; simp [hm3], hK⟩
       ·have h4' : rs[i].2.1 = -1 := Decidable.not_not.1 h4
        refine qgn rfl <| qgn rfl <| qgn rfl <| qgn rfl <| qgn rfl <| qgn rfl <| qgn rfl <| qgn rfl <| qgn rfl <| qgn rfl <| qv (fun w hK => (pk rfl)) <| qv (fun w hK => (mB rfl)) <| qgn rfl <| qgn rfl <| qgn rfl <| qgn rfl <| qgn rfl <| qgn rfl <| qgn rfl <| qgn rfl <| qv (fun w hK => (pk rfl)) <| qn <| ?_
        intro w hK
        refine ctn <| ?_
        exact ⟨_, ⟨rfl, rfl, rfl, rfl, rfl, trivial⟩, by rw [← hnb]; simp [h4'], hK⟩
      ·rintro s g w ⟨hsb2, hK⟩
       refine thn <| ?_
       refine cdB rfl (fun hq => ?_) fun hq => ?_
       ·refine sq <| rg <| ?_
        refine vl (aB rfl) <| nl <| thn <| rt <| thr <| p1r (a := .bool _) rfl <| ?_
        exact .inl ⟨rfl, notifyR_no fun h => hsb2.1 hq h.2.2.2, (hback _ _ hK).drop1.dropL'⟩
       ·have hq' := Classical.not_not.1 fun h => by rw [hsb2.2 h] at hq; cases hq
        refine sk <| thn <| sq <| rg <| ?_
        refine vl mv <| vl (mI rfl) <| vl (nc rfl) <| vl (fe underlying98 rfl Ty.z3 rfl hs.1 om) <| ?_
        replace hK : K e w G (A ++ ((sb, row [v] 206) :: L)) := K.mid (A := [(sb, _)]) (B := A) (hback _ _ hK)
        refine osSetC hK ho.os (i := i * 3 + 1) om Ty.i3 rfl rfl rfl rfl fun A2 w ho3 hK => ?_
        refine nl <| thn <| sq <| rg <| vl (aB rfl) <| nl <| thn <| rt <| p1r (a := .bool _) rfl <| ?_
        exact .inr ⟨G, v, _, A2, rfl, (notifyR_yes ⟨hm, h2, hm2, hq'⟩).trans (congrArg some (hn.setBef other)), VLe.refl _, ho.put hi (by omega) rfl (ho.at hi) ho3, hnf.same hi rfl, K.mid (A := A2) (B := [_]) hK⟩
    ·skip
     refine cl call134 rfl (nodeAt_no hK hR hm2) ?_
     rintro _ w ⟨rfl, hK⟩
     refine gy rfl <| vl (eqPn underlying143 rfl rfl) <| vl (pk rfl) <| nl <| thn <| ?_
     refine cdB rfl (fun h3 => ?_) fun h3 => ?_
     ·refine sq <| rg <| ?_
      refine vl (aB rfl) <| nl <| thn <| rt <| thr <| p1r (a := .bool _) rfl <| ?_
      exact .inl ⟨rfl, notifyR_no fun h => hm2 h.2.2.1, (hback _ _ hK).drop1.dropL'⟩
     ·cases h3
 ·skip
  refine cl call134 rfl (nodeAt_no hK hR hm) ?_
  rintro _ w ⟨rfl, hK⟩
  refine vl asg <| nl <| thn <| sq <| sq <| rg <| vl mv <| vl (eqPn underlying143 rfl rfl) <| vl (mB rfl) <| ?_
  refine spl (t := 16) rfl (fun h1 => ?_) fun h1 => ?_
  ·refine gn rfl <| gn rfl <| gn rfl <| vl (pk rfl) <| vl (mB rfl) <| gn rfl <| gn rfl <| gn rfl <| gn rfl <| gn rfl <| gn rfl <| gn rfl <| vl (pk rfl) <| nl <| thn <| ?_
   refine cdt rfl ?_
   refine sq <| rg <| ?_
   refine vl (aB rfl) <| nl <| thn <| rt <| thr <| p1r (a := .bool _) rfl <| ?_
   exact .inl ⟨rfl, notifyR_no fun h => hm h.1, (hback _ _ hK).drop1.dropL'⟩
  ·cases h1
set_option maxHeartbeats 2000000 in
theorem dropStepF_c (hsf : RgSafe (rgl rs)) (hG0 : VLe G0 G) (hnf : RnF 3 G0 G rs) (ho : OR G 98 v rs A) (hK : K e w G ((sb, row [v] 206) :: (A ++ L))) :
  Ret prog 208 #[.pointer (some ⟨sb, 0, none⟩), .int .i64 id, .int .i64 other] w (StpF e G0 G 98 3 206 sb L (dropR (rgl rs) id)) := by
 obtain ⟨Gf, hGf, hR, hsb, hK, hback⟩ := ho.all hK
 have hs := hR.sl
 refine enter1 (args := [.pointer (some ⟨sb, 0, none⟩), .int .i64 id, .int .i64 other]) func208 rfl rfl rfl rfl ?_
 refine sq <| rg <| ?_
 refine vl (aB rfl) <| nl <| thn <| sq <| rg <| vl mv <| vl (nc rfl) <| vl (fa underlying206 rfl Ty.z25 rfl) <| vl (ldV hK Ty.o25 rfl hsb) <| vl (mI rfl) <| ?_
 by_cases hm : id ∈ ids (rgl rs)
 ·obtain ⟨i, hn⟩ := NdA.of' hR hsf hm
  have hi := hn.lt
  have hx := ho.at hi
  have hxf := hn.aft
  have hal := hn.len
  have h0 := hn.ha0
  have h1 := hn.ha1
  have hp' : Pt rs[i].2.2.2[1] := by rw [h1]; exact hn.pa1
  refine cl call134 rfl (nodeAt_in hK hR hn) ?_
  rintro _ w ⟨rfl, hK⟩
  refine vl asg <| nl <| thn <| sq <| sq <| ?_
  refine rgq (fun w => K _ w _ _) Ty.mixed kr (hK.drawn _) ?_
  refine qv (fun w hK => mv) <| qv (fun w hK => (eqPn underlying143 rfl rfl)) <| qv (fun w hK => (mB rfl)) <| ?_
  refine qspl (t := 16) rfl (fun h2 => ?_) fun h2 => ?_
  ·cases h2
  ·have _ := trivial
   refine qgy rfl <| qv (fun w hK => mv) <| qgy rfl <| qv (fun w hK => (nc rfl)) <| qgy rfl <| qv (fun w hK => (fa underlying206 rfl Ty.z25 rfl)) <| qgy rfl <| qldV Ty.o25 rfl hsb <| qgy rfl <| qv (fun w hK => mv) <| qgy rfl <| qv (fun w hK => (nc rfl)) <| qgy rfl <| qv (fun w hK => (fe underlying98 rfl Ty.z22 rfl hs.1 om)) <| qgy rfl <| qldV Ty.o22 rfl (hs.cell om 2 rfl) <| qgy rfl <| qv (fun w hK => (ixn1 underlying22 Ty.s3 rfl hxf.1 rfl om)) <| qgy rfl <| qldV Ty.o3 rfl (hxf.at (i := 0) om) <| qgy rfl <| ?_
   by_cases hm2 : rs[i].2.2.2[0] ∈ ids (rgl rs)
   ·obtain ⟨j, hn2⟩ := NdA.of' hR hsf hm2
    refine qcl call134 rfl (fun w hK => nodeAt_in hK hR hn2) ?_
    refine qgy rfl <| qv (fun w hK => (nePn underlying143 rfl rfl)) <| qv (fun w hK => (pk rfl)) <| qn <| ?_
    intro w hK
    refine thn <| ?_
    refine cdB rfl (fun h3 => ?_) fun h3 => ?_
    ·refine sq <| rg <| ?_
     refine vl (aB rfl) <| nl <| thn <| rt <| thr <| p1r (a := .bool _) rfl <| ?_
     exact .inl ⟨rfl, dropR_no fun h => h.2 (by rw [← h0]; exact hm2), (hback _ _ hK).drop1.dropL'⟩
    ·cases h3
   ·skip
    refine qcl call134 rfl (fun w hK => nodeAt_no hK hR hm2) ?_
    refine qgy rfl <| qv (fun w hK => (nePn underlying143 rfl rfl)) <| qv (fun w hK => (pk rfl)) <| qn <| ?_
    intro w hK
    refine thn <| ?_
    refine cdB rfl (fun h3 => ?_) fun h3 => ?_
    ·cases h3
    ·have _ := trivial
     have hres : dropR (rgl rs) id = some (rgl (rs.set i (rs[i].1, rs[i].2.1, .slice (some ⟨0, 0, none⟩) 2 2, [rs[i].2.2.2[1], (rs[i].2.2.2[1] + 1) % 64]))) := by
      rw [dropR_yes ⟨hm, by rw [← h0]; exact hm2⟩, h1]; exact congrArg some (hn.setAft _ _)
     refine sk <| thn <| sq <| ?_
     replace hK : K e w G (A ++ ((sb, row [v] 206) :: L)) := K.mid (A := [(sb, _)]) (B := A) (hback _ _ hK)
     refine rgs (fun w => K e w G L) (fun w => K _ w _ _) [U,U,U,U,U,U,U,U,U,U,U,U,U,U,U,U,U,U,U] 19 Ty.mixed rfl rfl (hK.drawn _) ?_
     intro w hK
     have hS : (fun w => K e w G L) w := (by first | exact (K.dropL hK).drop1 | exact (K.dropL (K.drop1 hK)).drop1)
     refine xt (i := 0) rfl kr rfl rfl (fun w hK => mv) hS <| xt (i := 1) rfl kr rfl rfl (fun w hK => mv) hS <| xt (i := 2) rfl kr rfl rfl (fun w hK => (nc rfl)) hS <| xt (i := 3) rfl kr rfl rfl (fun w hK => (fe underlying98 rfl Ty.z22 rfl hs.1 om)) hS <| xt (i := 7) rfl kr rfl rfl (fun w hK => mv) hS <| xt (i := 8) rfl kr rfl rfl (fun w hK => (nc rfl)) hS <| xt (i := 9) rfl kr rfl rfl (fun w hK => (fe underlying98 rfl Ty.z22 rfl hs.1 om)) hS <| ?_
     refine xe2 (i := 4) (j := 10) kr rfl rfl rfl rfl ?_ ?_
     ·refine vl (ldC Ty.o22 rfl (ho.cell hK hi 2 rfl)) <| ?_
      refine xnk ((by first | exact (K.dropL hK).drop1 | exact (K.dropL (K.drop1 hK)).drop1)) fun hS => ?_
      refine xt (i := 5) rfl kr rfl rfl (fun w hK => (ixn1 underlying22 Ty.s3 rfl hx.1 rfl om)) hS <| xt (i := 6) rfl kr rfl rfl (fun w hK => (ldV hK Ty.o3 rfl (by exact hx.at (i := 1) om))) hS <| ?_
      refine xe (i := 10) kr rfl rfl ?_
      refine vl (ldC Ty.o22 rfl (ho.cell hK hi 2 rfl)) <| ?_
      refine xnk ((by first | exact (K.dropL hK).drop1 | exact (K.dropL (K.drop1 hK)).drop1)) fun hS => ?_
      refine xt (i := 11) rfl kr rfl rfl (fun w hK => (ixn1 underlying22 Ty.s3 rfl hx.1 rfl om)) hS <| xt (i := 12) rfl kr rfl rfl (fun w hK => (ldV hK Ty.o3 rfl (by exact hx.at (i := 1) om))) hS <| xt (i := 13) rfl kr rfl rfl (fun w hK => (ad rfl rfl)) hS <| xt (i := 14) rfl kr rfl rfl (fun w hK => (rm rfl rfl)) hS <| ?_
      refine xe (i := 15) kr rfl rfl ?_
      refine bsN [.tmp 36, .tmp 44] hK underlying22 Ty.i3 rfl rfl rfl rfl rfl rfl rfl rfl ?_
      intro b45 w hK
      refine xnk ((by first | exact (K.dropL hK).drop1 | exact (K.dropL (K.drop1 hK)).drop1)) fun hS => ?_
      refine xt (i := 16) rfl kr rfl rfl (fun w hK => (nc rfl)) hS <| xt (i := 17) rfl kr rfl rfl (fun w hK => (fe underlying98 rfl Ty.z22 rfl hs.1 om)) hS <| ?_
      refine xe (i := 18) kr rfl rfl ?_
      replace hK : K e w G (A ++ ((b45, row [.int .i64 (rs[i].2.2.2[1]), .int .i64 ((rs[i].2.2.2[1] + 1) % 64)] 3) :: ((sb, row [v] 206) :: L))) := K.mid (A := [(b45, _)]) (B := A) hK
      refine osSetC hK ho.os (i := i * 3 + 2) om Ty.i22 rfl rfl rfl rfl fun A2 w ho3 hK => ?_
      refine xnk (((K.dropL hK).drop1.drop1)) fun hS => ?_
      refine xd kr <| thn <| sq <| rg <| vl (aB rfl) <| nl <| thn <| rt <| p1r (a := .bool _) rfl <| ?_
      obtain ⟨G1, hG1, hx', hxn, hxb, hK⟩ := K.pubOF (v := .slice (some ⟨b45, 0, none⟩) 2 2) (xs := [(rs[i].2.2.2[1]), ((rs[i].2.2.2[1] + 1) % 64)]) (A := [(b45, _)]) (K.mid (A := A2) (B := [_]) hK) (OS.lit (by simp) (by simp)) hG0
      exact .inr ⟨G1, v, _, A2, rfl, hres.trans (congrArg some (rgl_ir hi)), hG1, (ho.mono hG1).put hi (by omega) rfl hx' ho3, hnf.set hi hxn hG1 hxb, K.mid (A := A2) (B := [_]) hK⟩
     ·refine vl (ldC Ty.o22 rfl (ho.cell hK hi 2 rfl)) <| ?_
      refine xnk ((by first | exact (K.dropL hK).drop1 | exact (K.dropL (K.drop1 hK)).drop1)) fun hS => ?_
      refine xt (i := 11) rfl kr rfl rfl (fun w hK => (ixn1 underlying22 Ty.s3 rfl hx.1 rfl om)) hS <| xt (i := 12) rfl kr rfl rfl (fun w hK => (ldV hK Ty.o3 rfl (by exact hx.at (i := 1) om))) hS <| xt (i := 13) rfl kr rfl rfl (fun w hK => (ad rfl rfl)) hS <| xt (i := 14) rfl kr rfl rfl (fun w hK => (rm rfl rfl)) hS <| ?_
      refine xe (i := 4) kr rfl rfl ?_
      refine vl (ldC Ty.o22 rfl (ho.cell hK hi 2 rfl)) <| ?_
      refine xnk ((by first | exact (K.dropL hK).drop1 | exact (K.dropL (K.drop1 hK)).drop1)) fun hS => ?_
      refine xt (i := 5) rfl kr rfl rfl (fun w hK => (ixn1 underlying22 Ty.s3 rfl hx.1 rfl om)) hS <| xt (i := 6) rfl kr rfl rfl (fun w hK => (ldV hK Ty.o3 rfl (by exact hx.at (i := 1) om))) hS <| ?_
      refine xe (i := 15) kr rfl rfl ?_
      refine bsN [.tmp 36, .tmp 44] hK underlying22 Ty.i3 rfl rfl rfl rfl rfl rfl rfl rfl ?_
      intro b45 w hK
      refine xnk ((by first | exact (K.dropL hK).drop1 | exact (K.dropL (K.drop1 hK)).drop1)) fun hS => ?_
      refine xt (i := 16) rfl kr rfl rfl (fun w hK => (nc rfl)) hS <| xt (i := 17) rfl kr rfl rfl (fun w hK => (fe underlying98 rfl Ty.z22 rfl hs.1 om)) hS <| ?_
      refine xe (i := 18) kr rfl rfl ?_
      replace hK : K e w G (A ++ ((b45, row [.int .i64 (rs[i].2.2.2[1]), .int .i64 ((rs[i].2.2.2[1] + 1) % 64)] 3) :: ((sb, row [v] 206) :: L))) := K.mid (A := [(b45, _)]) (B := A) hK
      refine osSetC hK ho.os (i := i * 3 + 2) om Ty.i22 rfl rfl rfl rfl fun A2 w ho3 hK => ?_
      refine xnk (((K.dropL hK).drop1.drop1)) fun hS => ?_
      refine xd kr <| thn <| sq <| rg <| vl (aB rfl) <| nl <| thn <| rt <| p1r (a := .bool _) rfl <| ?_
      obtain ⟨G1, hG1, hx', hxn, hxb, hK⟩ := K.pubOF (v := .slice (some ⟨b45, 0, none⟩) 2 2) (xs := [(rs[i].2.2.2[1]), ((rs[i].2.2.2[1] + 1) % 64)]) (A := [(b45, _)]) (K.mid (A := A2) (B := [_]) hK) (OS.lit (by simp) (by simp)) hG0
      exact .inr ⟨G1, v, _, A2, rfl, hres.trans (congrArg some (rgl_ir hi)), hG1, (ho.mono hG1).put hi (by omega) rfl hx' ho3, hnf.set hi hxn hG1 hxb, K.mid (A := A2) (B := [_]) hK⟩
 ·skip
  refine cl call134 rfl (nodeAt_no hK hR hm) ?_
  rintro _ w ⟨rfl, hK⟩
  refine vl asg <| nl <| thn <| sq <| sq <| ?_
  refine rgq (fun w => K _ w _ _) Ty.mixed kr (hK.drawn _) ?_
  refine qv (fun w hK => mv) <| qv (fun w hK => (eqPn underlying143 rfl rfl)) <| qv (fun w hK => (mB rfl)) <| ?_
  refine qspl (t := 16) rfl (fun h1 => ?_) fun h1 => ?_
  ·refine qgn rfl <| qgn rfl <| qgn rfl <| qgn rfl <| qgn rfl <| qgn rfl <| qgn rfl <| qgn rfl <| qgn rfl <| qgn rfl <| qgn rfl <| qgn rfl <| qv (fun w hK => (pk rfl)) <| qn <| ?_
   intro w hK
   refine thn <| ?_
   refine cdt rfl ?_
   refine sq <| rg <| ?_
   refine vl (aB rfl) <| nl <| thn <| rt <| thr <| p1r (a := .bool _) rfl <| ?_
   exact .inl ⟨rfl, dropR_no fun h => hm h.1, (hback _ _ hK).drop1.dropL'⟩
  ·cases h1
set_option maxHeartbeats 2000000 in
theorem adoptStepF_c (hsf : RgSafe (rgl rs)) (hG0 : VLe G0 G) (hnf : RnF 3 G0 G rs) (ho : OR G 98 v rs A) (hK : K e w G ((sb, row [v] 206) :: (A ++ L))) :
  Ret prog 210 #[.pointer (some ⟨sb, 0, none⟩), .int .i64 id, .int .i64 other] w (StpF e G0 G 98 3 206 sb L (adoptR (rgl rs) id)) := by
 obtain ⟨Gf, hGf, hR, hsb, hK, hback⟩ := ho.all hK
 have hs := hR.sl
 refine enter1 (args := [.pointer (some ⟨sb, 0, none⟩), .int .i64 id, .int .i64 other]) func210 rfl rfl rfl rfl ?_
 refine sq <| rg <| ?_
 refine vl (aB rfl) <| nl <| thn <| sq <| rg <| vl mv <| vl (nc rfl) <| vl (fa underlying206 rfl Ty.z25 rfl) <| vl (ldV hK Ty.o25 rfl hsb) <| vl (mI rfl) <| ?_
 by_cases hm : id ∈ ids (rgl rs)
 ·obtain ⟨i, hn⟩ := NdA.of' hR hsf hm
  have hi := hn.lt
  have hxf := hn.aft
  have hal := hn.len
  have hc0 : cellV Gf (elA rs[i].2.2.1 0) = some (.int .i64 (a0 (ndAt (rgl rs) id))) := by rw [← hn.ha0]; exact hxf.at _
  refine cl call134 rfl (nodeAt_in hK hR hn) ?_
  rintro _ w ⟨rfl, hK⟩
  refine vl asg <| nl <| thn <| sq <| sq <| rg <| vl mv <| vl (eqPn underlying143 rfl rfl) <| nl <| thn <| ?_
  refine cdB rfl (fun h2 => ?_) fun h2 => ?_
  ·cases h2
  ·have _ := trivial
   refine sk <| thn <| sq <| ?_
   refine rgq (fun w => K _ w _ _) Ty.mixed kr (hK.drawn _) ?_
   refine qv (fun w hK => mv) <| qv (fun w hK => (nc rfl)) <| qv (fun w hK => (fa underlying206 rfl Ty.z25 rfl)) <| qldV Ty.o25 rfl hsb <| qv (fun w hK => mv) <| qv (fun w hK => (nc rfl)) <| qv (fun w hK => (fe underlying98 rfl Ty.z22 rfl hs.1 om)) <| qldV Ty.o22 rfl (hs.cell om 2 rfl) <| qv (fun w hK => (ixn1 underlying22 Ty.s3 rfl hxf.1 rfl om)) <| qldV Ty.o3 rfl hc0 <| ?_
   by_cases hm2 : a0 (ndAt (rgl rs) id) ∈ ids (rgl rs)
   ·obtain ⟨j, hn2⟩ := NdA.of' hR hsf hm2
    have hj := hn2.lt
    have hxj := ho.at hj
    have hal2 := hn2.len
    have hc1 : cellV G (elA rs[j].2.2.1 0) = some (.int .i64 (a0 (ndAt (rgl rs) (a0 (ndAt (rgl rs) id))))) := by rw [← hn2.ha0]; exact hxj.at _
    refine qcl call134 rfl (fun w hK => nodeAt_in hK hR hn2) ?_
    refine qv (fun w hK => asg) <| qn <| ?_
    intro w hK
    refine thn <| sq <| sq <| rg <| vl mv <| vl (eqPn underlying143 rfl rfl) <| nl <| thn <| ?_
    refine cdB rfl (fun h3 => ?_) fun h3 => ?_
    ·cases h3
    ·have _ := trivial
     refine sk <| thn <| sq <| ?_
     replace hK : K e w G (A ++ ((sb, row [v] 206) :: L)) := K.mid (A := [(sb, _)]) (B := A) (hback _ _ hK)
     refine rgs (fun w => K e w G L) (fun w => K _ w _ _) [U,U,U,U,U,U,U,U,U,U,U,U,U,U,U] 15 Ty.mixed rfl rfl (hK.drawn _) ?_
     intro w hK
     have hS : (fun w => K e w G L) w := (by first | exact (K.dropL hK).drop1 | exact (K.dropL (K.drop1 hK)).drop1)
     refine xt (i := 0) rfl kr rfl rfl (fun w hK => mv) hS <| xt (i := 1) rfl kr rfl rfl (fun w hK => mv) hS <| xt (i := 2) rfl kr rfl rfl (fun w hK => (nc rfl)) hS <| xt (i := 3) rfl kr rfl rfl (fun w hK => (fe underlying98 rfl Ty.z3 rfl hs.1 om)) hS <| xt (i := 5) rfl kr rfl rfl (fun w hK => mv) hS <| xt (i := 6) rfl kr rfl rfl (fun w hK => (nc rfl)) hS <| xt (i := 7) rfl kr rfl rfl (fun w hK => (fe underlying98 rfl Ty.z22 rfl hs.1 om)) hS <| ?_
     refine xe2 (i := 4) (j := 8) kr rfl rfl rfl rfl ?_ ?_
     ·refine vl (ldC Ty.o3 rfl (ho.cid hK hn2)) <| ?_
      refine xnk ((by first | exact (K.dropL hK).drop1 | exact (K.dropL (K.drop1 hK)).drop1)) fun hS => ?_
      refine xe (i := 8) kr rfl rfl ?_
      refine vl (ldC Ty.o22 rfl (ho.cell hK hj 2 rfl)) <| ?_
      refine xnk ((by first | exact (K.dropL hK).drop1 | exact (K.dropL (K.drop1 hK)).drop1)) fun hS => ?_
      refine xt (i := 9) rfl kr rfl rfl (fun w hK => (ixn1 underlying22 Ty.s3 rfl hxj.1 rfl om)) hS <| xt (i := 10) rfl kr rfl rfl (fun w hK => (ldV hK Ty.o3 rfl hc1)) hS <| ?_
      refine xe (i := 11) kr rfl rfl ?_
      refine bsN [.tmp 34, .tmp 40] hK underlying22 Ty.i3 rfl rfl rfl rfl rfl rfl rfl rfl ?_
      intro b41 w hK
      refine xnk ((by first | exact (K.dropL hK).drop1 | exact (K.dropL (K.drop1 hK)).drop1)) fun hS => ?_
      refine xt (i := 12) rfl kr rfl rfl (fun w hK => (nc rfl)) hS <| xt (i := 13) rfl kr rfl rfl (fun w hK => (fe underlying98 rfl Ty.z22 rfl hs.1 om)) hS <| ?_
      refine xe (i := 14) kr rfl rfl ?_
      replace hK : K e w G (A ++ ((b41, row [.int .i64 (a0 (ndAt (rgl rs) id)), .int .i64 (a0 (ndAt (rgl rs) (a0 (ndAt (rgl rs) id))))] 3) :: ((sb, row [v] 206) :: L))) := K.mid (A := [(b41, _)]) (B := A) hK
      refine osSetC hK ho.os (i := i * 3 + 2) om Ty.i22 rfl rfl rfl rfl fun A2 w ho3 hK => ?_
      refine xnk (((K.dropL hK).drop1.drop1)) fun hS => ?_
      refine xd kr <| thn <| sq <| rg <| vl (aB rfl) <| nl <| thn <| rt <| p1r (a := .bool _) rfl <| ?_
      obtain ⟨G1, hG1, hx', hxn, hxb, hK⟩ := K.pubOF (v := .slice (some ⟨b41, 0, none⟩) 2 2) (xs := [(a0 (ndAt (rgl rs) id)), (a0 (ndAt (rgl rs) (a0 (ndAt (rgl rs) id))))]) (A := [(b41, _)]) (K.mid (A := A2) (B := [_]) hK) (OS.lit (by simp) (by simp)) hG0
      exact .inr ⟨G1, v, _, A2, rfl, (adoptR_yes ⟨hm, hm2⟩).trans (congrArg some (hn.setAft _ _)), hG1, (ho.mono hG1).put hi (by omega) rfl hx' ho3, hnf.set hi hxn hG1 hxb, K.mid (A := A2) (B := [_]) hK⟩
     ·refine vl (ldC Ty.o22 rfl (ho.cell hK hj 2 rfl)) <| ?_
      refine xnk ((by first | exact (K.dropL hK).drop1 | exact (K.dropL (K.drop1 hK)).drop1)) fun hS => ?_
      refine xt (i := 9) rfl kr rfl rfl (fun w hK => (ixn1 underlying22 Ty.s3 rfl hxj.1 rfl om)) hS <| xt (i := 10) rfl kr rfl rfl (fun w hK => (ldV hK Ty.o3 rfl hc1)) hS <| ?_
      refine xe (i := 4) kr rfl rfl ?_
      refine vl (ldC Ty.o3 rfl (ho.cid hK hn2)) <| ?_
      refine xnk ((by first | exact (K.dropL hK).drop1 | exact (K.dropL (K.drop1 hK)).drop1)) fun hS => ?_
      refine xe (i := 11) kr rfl rfl ?_
      refine bsN [.tmp 34, .tmp 40] hK underlying22 Ty.i3 rfl rfl rfl rfl rfl rfl rfl rfl ?_
      intro b41 w hK
      refine xnk ((by first | exact (K.dropL hK).drop1 | exact (K.dropL (K.drop1 hK)).drop1)) fun hS => ?_
      refine xt (i := 12) rfl kr rfl rfl (fun w hK => (nc rfl)) hS <| xt (i := 13) rfl kr rfl rfl (fun w hK => (fe underlying98 rfl Ty.z22 rfl hs.1 om)) hS <| ?_
      refine xe (i := 14) kr rfl rfl ?_
      replace hK : K e w G (A ++ ((b41, row [.int .i64 (a0 (ndAt (rgl rs) id)), .int .i64 (a0 (ndAt (rgl rs) (a0 (ndAt (rgl rs) id))))] 3) :: ((sb, row [v] 206) :: L))) := K.mid (A := [(b41, _)]) (B := A) hK
      refine osSetC hK ho.os (i := i * 3 + 2) om Ty.i22 rfl rfl rfl rfl fun A2 w ho3 hK => ?_
      refine xnk (((K.dropL hK).drop1.drop1)) fun hS => ?_
      refine xd kr <| thn <| sq <| rg <| vl (aB rfl) <| nl <| thn <| rt <| p1r (a := .bool _) rfl <| ?_
      obtain ⟨G1, hG1, hx', hxn, hxb, hK⟩ := K.pubOF (v := .slice (some ⟨b41, 0, none⟩) 2 2) (xs := [(a0 (ndAt (rgl rs) id)), (a0 (ndAt (rgl rs) (a0 (ndAt (rgl rs) id))))]) (A := [(b41, _)]) (K.mid (A := A2) (B := [_]) hK) (OS.lit (by simp) (by simp)) hG0
      exact .inr ⟨G1, v, _, A2, rfl, (adoptR_yes ⟨hm, hm2⟩).trans (congrArg some (hn.setAft _ _)), hG1, (ho.mono hG1).put hi (by omega) rfl hx' ho3, hnf.set hi hxn hG1 hxb, K.mid (A := A2) (B := [_]) hK⟩
   ·skip
    refine qcl call134 rfl (fun w hK => nodeAt_no hK hR hm2) ?_
    refine qv (fun w hK => asg) <| qn <| ?_
    intro w hK
    refine thn <| sq <| sq <| rg <| vl mv <| vl (eqPn underlying143 rfl rfl) <| nl <| thn <| ?_
    refine cdB rfl (fun h3 => ?_) fun h3 => ?_
    ·refine sq <| rg <| ?_
     refine vl (aB rfl) <| nl <| thn <| rt <| thr <| p1r (a := .bool _) rfl <| ?_
     exact .inl ⟨rfl, adoptR_no fun h => hm2 h.2, (hback _ _ hK).drop1.dropL'⟩
    ·cases h3
 ·skip
  refine cl call134 rfl (nodeAt_no hK hR hm) ?_
  rintro _ w ⟨rfl, hK⟩
  refine vl asg <| nl <| thn <| sq <| sq <| rg <| vl mv <| vl (eqPn underlying143 rfl rfl) <| nl <| thn <| ?_
  refine cdB rfl (fun h1 => ?_) fun h1 => ?_
  ·refine sq <| rg <| ?_
   refine vl (aB rfl) <| nl <| thn <| rt <| thr <| p1r (a := .bool _) rfl <| ?_
   exact .inl ⟨rfl, adoptR_no fun h => hm h.1, (hback _ _ hK).drop1.dropL'⟩
  ·cases h1
set_option maxHeartbeats 2000000 in
theorem closerStepF_c (hsf : RgSafe (rgl rs)) (hid : Pt id) (hot : Pt other) (hG0 : VLe G0 G) (hnf : RnF 3 G0 G rs) (ho : OR G 98 v rs A) (hK : K e w G ((sb, row [v] 206) :: (A ++ L))) :
  Ret prog 212 #[.pointer (some ⟨sb, 0, none⟩), .int .i64 id, .int .i64 other] w (StpF e G0 G 98 3 206 sb L (closerR (rgl rs) id other)) := by
 obtain ⟨Gf, hGf, hR, hsb, hK, hback⟩ := ho.all hK
 have hs := hR.sl
 refine enter1 (args := [.pointer (some ⟨sb, 0, none⟩), .int .i64 id, .int .i64 other]) func212 rfl rfl rfl rfl ?_
 refine sq <| rg <| ?_
 refine vl (aB rfl) <| nl <| thn <| sq <| ?_
 refine rgq (fun w => K _ w _ _) Ty.mixed kr (hK.drawn _) ?_
 refine qv (fun w hK => mv) <| qv (fun w hK => (nc rfl)) <| qv (fun w hK => (fa underlying206 rfl Ty.z25 rfl)) <| qldV Ty.o25 rfl hsb <| qv (fun w hK => (mI rfl)) <| ?_
 by_cases hm : id ∈ ids (rgl rs)
 ·obtain ⟨i, hn⟩ := NdA.of' hR hsf hm
  have hi := hn.lt
  have hxf := hn.aft
  have hal := hn.len
  have hc0 : cellV Gf (elA rs[i].2.2.1 0) = some (.int .i64 (a0 (ndAt (rgl rs) id))) := by rw [← hn.ha0]; exact hxf.at _
  refine qcl call134 rfl (fun w hK => nodeAt_in hK hR hn) ?_
  refine qv (fun w hK => mv) <| qv (fun w hK => (nc rfl)) <| qv (fun w hK => (fa underlying206 rfl Ty.z25 rfl)) <| qldV Ty.o25 rfl hsb <| qv (fun w hK => (mI rfl)) <| ?_
  by_cases hm2 : other ∈ ids (rgl rs)
  ·obtain ⟨j, hn2⟩ := NdA.of' hR hsf hm2
   have hj := hn2.lt
   have hxj := ho.at hj
   have hal2 := hn2.len
   have hc1 : cellV G (elA rs[j].2.2.1 0) = some (.int .i64 (a0 (ndAt (rgl rs) other))) := by rw [← hn2.ha0]; exact hxj.at _
   refine qcl call134 rfl (fun w hK => nodeAt_in hK hR hn2) ?_
   refine qv (fun w hK => asg) <| qv (fun w hK => asg) <| qn <| ?_
   intro w hK
   refine thn <| sq <| sq <| rg <| vl mv <| vl (eqPn underlying143 rfl rfl) <| vl (mB rfl) <| ?_
   refine spl (t := 23) rfl (fun h3 => ?_) fun h3 => ?_
   ·cases h3
   ·have _ := trivial
    refine gy rfl <| vl mv <| gy rfl <| vl (eqPn underlying143 rfl rfl) <| vl (pk rfl) <| vl (mB rfl) <| ?_
    refine spl (t := 27) rfl (fun h4 => ?_) fun h4 => ?_
    ·cases h4
    ·have _ := trivial
     refine gy rfl <| vl (mI rfl) <| gy rfl <| vl (mI rfl) <| gy rfl <| vl mv <| gy rfl <| vl (nc rfl) <| gy rfl <| vl (fe underlying98 rfl Ty.z22 rfl hs.1 om) <| gy rfl <| vl (ldV hK Ty.o22 rfl (hs.cell om 2 rfl)) <| gy rfl <| vl (ixn1 underlying22 Ty.s3 rfl hxf.1 rfl om) <| gy rfl <| vl (ldV hK Ty.o3 rfl hc0) <| gy rfl <| ?_
     refine cl call216 rfl (CircleBetween_c hK hid hot hn.pa0) ?_
     rintro _ w ⟨rfl, hK⟩
     refine gy rfl <| vl (ntB rfl) <| vl (pk rfl) <| nl <| thn <| ?_
     refine cdB rfl (fun h5 => ?_) fun h5 => ?_
     ·have h5' := Eq.mp (Bool.not_eq_true' _) h5
      refine sq <| rg <| ?_
      refine vl (aB rfl) <| nl <| thn <| rt <| thr <| p1r (a := .bool _) rfl <| ?_
      exact .inl ⟨rfl, closerR_no (fun h => absurd h.2.2 (by rw [h5']; simp)), (hback _ _ hK).drop1.dropL'⟩
     ·have h5' := Eq.mp (Bool.not_eq_false' _) h5
      replace hK : K e w G (A ++ ((sb, row [v] 206) :: L)) := K.mid (A := [(sb, _)]) (B := A) (hback _ _ hK)
      refine sk <| thn <| sq <| rg <| ?_
      refine vl mv <| vl (mI rfl) <| vl mv <| vl (nc rfl) <| vl (fe underlying98 rfl Ty.z22 rfl hs.1 om) <| vl (ldC Ty.o22 rfl (ho.cell hK hj 2 rfl)) <| vl (ixn1 underlying22 Ty.s3 rfl hxj.1 rfl om) <| vl (ldV hK Ty.o3 rfl hc1) <| ?_
      refine bsN [.tmp 40, .tmp 46] hK underlying22 Ty.i3 rfl rfl rfl rfl rfl rfl rfl rfl ?_
      intro b47 w hK
      refine vl (nc rfl) <| vl (fe underlying98 rfl Ty.z22 rfl hs.1 om) <| ?_
      replace hK : K e w G (A ++ ((b47, row [.int .i64 other, .int .i64 (a0 (ndAt (rgl rs) other))] 3) :: ((sb, row [v] 206) :: L))) := K.mid (A := [(b47, _)]) (B := A) hK
      refine osSetC hK ho.os (i := i * 3 + 2) om Ty.i22 rfl rfl rfl rfl fun A2 w ho3 hK => ?_
      refine nl <| thn <| sq <| rg <| vl (aB rfl) <| nl <| thn <| rt <| p1r (a := .bool _) rfl <| ?_
      obtain ⟨G1, hG1, hx', hxn, hxb, hK⟩ := K.pubOF (v := .slice (some ⟨b47, 0, none⟩) 2 2) (xs := [other, (a0 (ndAt (rgl rs) other))]) (A := [(b47, _)]) (K.mid (A := A2) (B := [_]) hK) (OS.lit (by simp) (by simp)) hG0
      exact .inr ⟨G1, v, _, A2, rfl, (closerR_yes ⟨hm, hm2, h5'⟩).trans (congrArg some (hn.setAft _ _)), hG1, (ho.mono hG1).put hi (by omega) rfl hx' ho3, hnf.set hi hxn hG1 hxb, K.mid (A := A2) (B := [_]) hK⟩
  ·skip
   refine qcl call134 rfl (fun w hK => nodeAt_no hK hR hm2) ?_
   refine qv (fun w hK => asg) <| qv (fun w hK => asg) <| qn <| ?_
   intro w hK
   refine thn <| sq <| sq <| rg <| vl mv <| vl (eqPn underlying143 rfl rfl) <| vl (mB rfl) <| ?_
   refine spl (t := 23) rfl (fun h3 => ?_) fun h3 => ?_
   ·cases h3
   ·have _ := trivial
    refine gy rfl <| vl mv <| gy rfl <| vl (eqPn underlying143 rfl rfl) <| vl (pk rfl) <| vl (mB rfl) <| ?_
    refine spl (t := 27) rfl (fun h4 => ?_) fun h4 => ?_
    ·refine gn rfl <| gn rfl <| gn rfl <| gn rfl <| gn rfl <| gn rfl <| gn rfl <| gn rfl <| gn rfl <| gn rfl <| vl (pk rfl) <| nl <| thn <| ?_
     refine cdt rfl ?_
     refine sq <| rg <| ?_
     refine vl (aB rfl) <| nl <| thn <| rt <| thr <| p1r (a := .bool _) rfl <| ?_
     exact .inl ⟨rfl, closerR_no fun h => hm2 h.2.1, (hback _ _ hK).drop1.dropL'⟩
    ·cases h4
 ·skip
  refine qcl call134 rfl (fun w hK => nodeAt_no hK hR hm) ?_
  refine qv (fun w hK => mv) <| qv (fun w hK => (nc rfl)) <| qv (fun w hK => (fa underlying206 rfl Ty.z25 rfl)) <| qldV Ty.o25 rfl hsb <| qv (fun w hK => (mI rfl)) <| ?_
  refine qcl call134 rfl (fun w hK => nodeAt_c hK hR) ?_
  refine qv (fun w hK => asg) <| qv (fun w hK => asg) <| qn <| ?_
  intro w hK
  refine thn <| sq <| sq <| rg <| vl mv <| vl (eqPn underlying143 rfl rfl) <| vl (mB rfl) <| ?_
  refine spl (t := 23) rfl (fun h1 => ?_) fun h1 => ?_
  ·refine gn rfl <| gn rfl <| vl (pk rfl) <| vl (mB rfl) <| gn rfl <| gn rfl <| gn rfl <| gn rfl <| gn rfl <| gn rfl <| gn rfl <| gn rfl <| gn rfl <| gn rfl <| vl (pk rfl) <| nl <| thn <| ?_
   refine cdt rfl ?_
   refine sq <| rg <| ?_
   refine vl (aB rfl) <| nl <| thn <| rt <| thr <| p1r (a := .bool _) rfl <| ?_
   exact .inl ⟨rfl, closerR_no fun h => hm h.1, (hback _ _ hK).drop1.dropL'⟩
  ·cases h1
end
end Go.Proofs.YtmgggljicpmndaaGreatDoor
