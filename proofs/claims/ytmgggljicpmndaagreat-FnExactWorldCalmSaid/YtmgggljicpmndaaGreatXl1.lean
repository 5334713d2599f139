/- The program's repair of a ring by one node: in new memory. The program's leases: what they give back lies in new memory. Conditions: those that each row states. -/
import Derived.Test.YtmgggljicpmndaaGreatCm
import Derived.Test.YtmgggljicpmndaaGreatXr4
import Derived.Test.YtmgggljicpmndaaGreatPlM
namespace Go.Proofs.YtmgggljicpmndaaGreat
open Go Go.Ro Tryz
section
variable {e w : World} {G G0 : View} {L A : Own} {v u : Value} {rs qs : List Rn} {id other k : Int} {i j : Nat}
theorem try_ringF {G0 : View} {tN tS : TypeId} {rs' : List Rn} {v' : Value} {o : Option (List Nd)} {bb : Bool} (h : RngS G v rs) (h' : RngS G v' rs') (hn : RgNew tN tS G0 G v rs) (hn' : RgNew tN tS G0 G v' rs') (hb : bb = o.isSome) (hr : rgl rs' = o.getD (rgl rs)) : ∃ x xs, (if bb then v' else v) = x ∧ RngS G x xs ∧ rgl xs = o.getD (rgl rs) ∧ RgNew tN tS G0 G x xs := by
 cases o with
 | none => subst hb; exact ⟨v, rs, if_neg (by simp), h, rfl, hn⟩
 | some y => subst hb; exact ⟨v', rs', if_pos rfl, h', hr, hn'⟩
set_option maxHeartbeats 1000000 in
theorem implStabilizeF_c (hK : K e w G L) (hv : RngS G v rs) (hsf : RgSafe (rgl rs)) (hid : id ∈ ids (rgl rs)) :
  Ret prog 99 #[v, .int .i64 id] w (fun r w' => ∃ G' v' rs', VLe G G' ∧ r = .tuple #[v', .bool true] ∧ RngS G' v' rs' ∧ RgNew 79 3 G G' v' rs' ∧ rgl rs' = stabR (rgl rs) id ∧ K e w' G' L) := by
 have hpt := hsf.1.ptId hid
 refine enter2 (args := [v, .int .i64 id]) func99 rfl rfl rfl rfl ?_
 refine sq <| rg <| ?_
 refine vl asg <| vl (aB rfl) <| nl <| thn <| sq <| sq <| rg <| vl mv <| ?_
 refine cl call62 rfl (implRingSafe_c hK hv) ?_
 rintro _ w ⟨rfl, hK⟩
 refine vl (ntB rfl) <| vl (mB rfl) <| ?_
 refine spl (t := 12) rfl (fun h1 => ?_) fun h1 => ?_
 ·exact absurd hsf (not_dec (Eq.mp (Bool.not_eq_true' _) h1))
 ·refine gy rfl <| vl (mI rfl) <| gy rfl <| ?_
  refine cl call94 rfl (posok_c (C := fun w => K _ w _ _) hK) ?_
  rintro _ w ⟨rfl, hK⟩
  refine gy rfl <| vl (ntB rfl) <| vl (pk rfl) <| nl <| thn <| ?_
  refine cdB rfl (fun h2 => ?_) fun h2 => ?_
  ·exact absurd hpt (of_decide_eq_false (Eq.mp (Bool.not_eq_true' _) h2))
  ·refine sk <| thn <| sq <| rg <| ?_
   refine vl mv <| ?_
   refine cl call70 rfl (copyRingF_v hK hv hsf.1) ?_
   rintro v1 w ⟨G1, rs1, hG1, hr1, hv1, hn1, hK⟩
   obtain ⟨m1, hm1⟩ := NdA.of hv1 (by rw [hr1]; exact hsf.1) (by rw [hr1]; exact hid)
   refine al hK Ty.i31 rfl ?_
   intro b6 w hK
   refine so hK Ty.i31 rfl 0 rfl rfl rfl hv1.sl.1.one rfl ?_
   intro w hK
   refine nl <| thn <| sq <| sq <| rg <| vl (ldO hK Ty.o31 0 rfl rfl rfl) <| vl (mI rfl) <| ?_
   refine cl call91 rfl (nodeAt_in hK hv1 hm1) ?_
   rintro _ w ⟨rfl, hK⟩
   refine vl (eqPn underlying100 rfl rfl) <| nl <| thn <| ?_
   refine cdB rfl (fun h3 => ?_) fun h3 => ?_
   ·cases h3
   ·refine sk <| thn <| sq <| rg <| ?_
    refine vl (mkf rfl) <| vl asg <| nl <| thn <| sq <| bk <| ?_
    refine lp (σ := Nat × View × Value × List Rn) (fun s => [(1, .int .i64 id), (6, .pointer (some ⟨b6, 0, none⟩)), (7, .func (.func 115) #[] #[.pointer (some ⟨b6, 0, none⟩)])]) (fun s w => s.1 ≤ 1 ∧ VLe G1 s.2.1 ∧ RngS s.2.1 s.2.2.1 s.2.2.2 ∧ RgNew 79 3 G s.2.1 s.2.2.1 s.2.2.2 ∧ ((s.1 = 1 ∧ rgl s.2.2.2 = rgl rs) ∨ (s.1 = 0 ∧ rgl s.2.2.2 = dr (rgl rs) id)) ∧ K e w s.2.1 ((b6, row [s.2.2.1] 31) :: L)) (fun s => s.1) (1, G1, v1, rs1) ⟨rfl, rfl, rfl, trivial⟩ ⟨Nat.le_refl _, VLe.refl _, hv1, hn1, .inl ⟨rfl, hr1⟩, hK⟩ ?_
    clear hv1 hn1 hK hm1
    rintro ⟨n, G2, v2, rs2⟩ g w ⟨hn, hG2, hv2, hnn2, hr2, hK⟩
    simp only at hn hG2 hv2 hnn2 hr2 hK
    have hs2 : RgSafe (rgl rs2) := by
     rcases hr2 with h | h
     ·rw [h.2]; exact hsf
     ·rw [h.2]; exact dr_safe hsf
    refine sq <| sq <| rg <| ?_
    refine vl mv <| vl (ldO hK Ty.o31 0 rfl rfl rfl) <| vl (mI rfl) <| ?_
    refine cl call116 rfl (implRingDropF_c hK hv2) ?_
    rintro _ w ⟨G3, hG3, hR3, hK⟩
    rw [tk_ot ⟨hs2, hpt⟩] at hR3
    obtain ⟨v3, rs3, rfl, hv3, hr3, hn3⟩ := hR3
    replace hn3 := hn3.older (hG1.trans hG2)
    rw [ot_dr] at hr3
    refine vl (ext rfl rfl) <| vl (ext rfl rfl) <| ?_
    refine cf (cap := [.pointer (some ⟨b6, 0, none⟩)]) (call115) rfl rfl (try_c (x := v3) hv3.sl.1.one hK) ?_
    rintro _ w ⟨rfl, hK⟩
    refine nl <| thn <| ?_
    refine cdB rfl (fun h4 => ?_) fun h4 => ?_
    ·rw [if_pos h4] at hK
     rw [ot_b] at h4
     have hn1 : n = 1 ∧ rgl rs2 = rgl rs := by
      rcases hr2 with h | h
      ·exact h
      ·exfalso
       have hl := dr_live hsf hid
       rw [h.2, dropR_no (fun g => g.2 hl)] at h4
       cases h4
     refine sk <| thn <| bk <| sk <| bkn <| thn <| ?_
     exact ⟨(0, G3, v3, rs3), ⟨rfl, rfl, rfl, trivial⟩, ⟨Nat.zero_le _, hG2.trans hG3, hv3, hn3, .inr ⟨rfl, by rw [hr3, hn1.2]⟩, hK⟩, by simp only; omega⟩
    ·rw [if_neg (by rw [h4]; simp)] at hK
     rw [ot_b] at h4
     have hno : dropR (rgl rs2) id = none := by simpa using h4
     have hd : rgl rs2 = drN 2 (rgl rs) id := by
      rcases hr2 with h | h
      ·rw [h.2] at hno ⊢; exact (drN_fix (dr_none hno) 2).symm
      ·rw [h.2] at hno ⊢; exact (dr_none hno).symm
     have hi2 : ids (rgl rs2) = ids (rgl rs) := by rw [hd]; exact drN_ids 2 _
     have hid2 : id ∈ ids (rgl rs2) := by rw [hi2]; exact hid
     have ha2 : a0 (ndAt (rgl rs2) id) ∈ ids (rgl rs2) := by
      by_cases ha : a0 (ndAt (rgl rs2) id) ∈ ids (rgl rs2)
      ·exact ha
      ·rw [dropR_yes ⟨hid2, ha⟩] at hno; cases hno
     have hv2 := hv2.mono hG3
     refine ex <| the <| the <| bkh <| thn <| sq <| rg <| ?_
     refine vl mv <| vl (ldO hK Ty.o31 0 rfl rfl rfl) <| vl (mI rfl) <| ?_
     refine cl call117 rfl (implRingAdoptF_c hK hv2) ?_
     rintro _ w ⟨G4, hG4, hR4, hK⟩
     rw [tk_ot ⟨hs2, hpt⟩] at hR4
     obtain ⟨v4, rs4, rfl, hv4, hr4, hn4⟩ := hR4
     replace hn4 := hn4.older ((hG1.trans hG2).trans hG3)
     rw [ot_1] at hr4
     replace hr4 : rgl rs4 = ad1 (rgl rs2) id := hr4
     refine vl (ext rfl rfl) <| vl (ext rfl rfl) <| ?_
     refine cf (cap := [.pointer (some ⟨b6, 0, none⟩)]) (call115) rfl rfl (try_c (x := v4) hv4.sl.1.one hK) ?_
     rintro _ w ⟨rfl, hK⟩
     rw [if_pos (show (ot (rgl rs2) (adoptR (rgl rs2) id)).2 = true by rw [ot_b, adoptR_yes ⟨hid2, ha2⟩]; rfl)] at hK
     have hs4 : RgSafe (rgl rs4) := by rw [hr4]; exact ad1_safe hs2
     have hi4 : ids (rgl rs4) = ids (rgl rs) := by rw [hr4, ad1_ids, hi2]
     have ha4 : a0 (ndAt (rgl rs4) id) ∈ ids (rgl rs4) := by rw [hi4, ← hi2, hr4]; exact ad1_live hid2 ha2
     obtain ⟨m, hm⟩ := NdA.of hv4 hs4.1 (by rw [hi4]; exact hid)
     obtain ⟨m', hm'⟩ := NdA.of hv4 hs4.1 ha4
     have hsl4 := hv4.sl
     have hx4 := hm.aft
     have hlt4 := hm.lt
     have hlen4 := hm.len
     have hlt4' := hm'.lt
     have hc4 : cellV G4 (elA rs4[m].2.2.1 0) = some (.int .i64 (a0 (ndAt (rgl rs4) id))) := by rw [← hm.ha0]; exact hx4.at _
     refine nl <| thn <| sq <| sq <| ?_
     refine rgs (fun w => K e w G4 ((b6, row [v4] 31) :: L)) (fun w => K _ w _ _) [U,U,U,U,U,U,U,U,U,U,U] 11 Ty.mixed rfl rfl (hK.drawn _) ?_
     intro w hK
     have hS : (fun w => K e w G4 ((b6, row [v4] 31) :: L)) w := K.sl hK
     refine xt (i := 0) rfl kr rfl rfl (fun w hK => (ldO hK Ty.o31 0 rfl rfl rfl)) hS <| xt (i := 1) rfl kr rfl rfl (fun w hK => (ldO hK Ty.o31 0 rfl rfl rfl)) hS <| xt (i := 2) rfl kr rfl rfl (fun w hK => (mI rfl)) hS <| ?_
     refine xe (i := 3) kr rfl rfl ?_
     refine cl call91 rfl (nodeAt_in hK hv4 hm) ?_
     rintro _ w ⟨rfl, hK⟩
     refine xnk (K.sl hK) fun hS => ?_
     refine xt (i := 4) rfl kr rfl rfl (fun w hK => (nc rfl)) hS <| xt (i := 5) rfl kr rfl rfl (fun w hK => (fe underlying79 rfl Ty.z25 rfl hsl4.1 om)) hS <| xt (i := 6) rfl kr rfl rfl (fun w hK => (ldV hK Ty.o25 rfl (by exact hsl4.cell om 2 rfl))) hS <| xt (i := 7) rfl kr rfl rfl (fun w hK => (ixn1 underlying25 Ty.s3 rfl hx4.1 rfl om)) hS <| xt (i := 8) rfl kr rfl rfl (fun w hK => (ldV hK Ty.o3 rfl hc4)) hS <| ?_
     refine xe (i := 9) kr rfl rfl ?_
     refine cl call91 rfl (nodeAt_in hK hv4 hm') ?_
     rintro _ w ⟨rfl, hK⟩
     refine xnk (K.sl hK) fun hS => ?_
     refine xt (i := 10) rfl kr rfl rfl (fun w hK => asg) hS <| xd kr <| thn <| sq <| rg <| vl mv <| vl (nePn underlying100 rfl rfl) <| vl (mB rfl) <| ?_
     refine spl (t := 51) rfl (fun h5 => ?_) fun h5 => ?_
     ·refine gy rfl <| vl mv <| gy rfl <| vl (nc rfl) <| gy rfl <| vl (fe underlying79 rfl Ty.z3 rfl hsl4.1 om) <| gy rfl <| vl (ldV hK Ty.o3 rfl (hsl4.cell om 1 rfl)) <| gy rfl <| vl (ne rfl rfl) <| vl (pk rfl) <| nl <| thn <| ?_
      refine ct (σ := View × Value × List Rn) (fun s => [(1, .int .i64 id), (6, .pointer (some ⟨b6, 0, none⟩)), (7, .func (.func 115) #[] #[.pointer (some ⟨b6, 0, none⟩)])]) (fun s w => VLe G4 s.1 ∧ RngS s.1 s.2.1 s.2.2 ∧ RgNew 79 3 G s.1 s.2.1 s.2.2 ∧ rgl s.2.2 = clo1 (rgl rs4) id ∧ K e w s.1 ((b6, row [s.2.1] 31) :: L)) ?_ ?_
      ·refine cdP rfl (fun h6 => ?_) fun h6 => ?_
       ·have hbn := hm'.bef
        have hbp : Pt rs4[m'].2.1 := by
         rcases (hs4.1.2.1 _ (ndAt_mem ha4)).2.1 with g | g
         ·rw [← hbn] at g; exact absurd g h6
         ·rw [← hbn] at g; exact g
        refine rgs (fun w => K e w G4 L) (fun w => K _ w _ _) [U,U,U,U,U,U,U,U,U,U,U] 11 Ty.mixed rfl rfl (hK.drawn _) ?_
        intro w hK
        have hS : (fun w => K e w G4 L) w := K.sl hK
        refine xt (i := 0) rfl kr rfl rfl (fun w hK => mv) hS <| xt (i := 2) rfl kr rfl rfl (fun w hK => (mI rfl)) hS <| xt (i := 3) rfl kr rfl rfl (fun w hK => mv) hS <| xt (i := 4) rfl kr rfl rfl (fun w hK => (nc rfl)) hS <| xt (i := 5) rfl kr rfl rfl (fun w hK => (fe underlying79 rfl Ty.z3 rfl hsl4.1 om)) hS <| xt (i := 6) rfl kr rfl rfl (fun w hK => (ldV hK Ty.o3 rfl (by exact hsl4.cell om 1 rfl))) hS <| ?_
        refine xe (i := 1) kr rfl rfl ?_
        refine vl (ldO hK Ty.o31 0 rfl rfl rfl) <| ?_
        refine xnk (K.sl hK) fun hS => ?_
        refine xe (i := 7) kr rfl rfl ?_
        refine cl call118 rfl (implRingCloserF_c hK hv4) ?_
        rintro _ w ⟨G5, hG5, hR5, hK⟩
        rw [tk_ot ⟨hs4, hpt, hbp⟩] at hR5
        obtain ⟨v5, rs5, rfl, hv5, hr5, hn5⟩ := hR5
        replace hn5 := hn5.older (((hG1.trans hG2).trans hG3).trans hG4)
        rw [ot_1] at hr5
        refine xnk ((K.vle (K.sl hK) hG5)) fun hS => ?_
        refine xt (i := 8) rfl kr rfl rfl (fun w hK => (ext rfl rfl)) hS <| xt (i := 9) rfl kr rfl rfl (fun w hK => (ext rfl rfl)) hS <| ?_
        refine xe (i := 10) kr rfl rfl ?_
        refine cf (cap := [.pointer (some ⟨b6, 0, none⟩)]) (call115) rfl rfl (try_c (x := v5) hv5.sl.1.one hK) ?_
        rintro _ w ⟨rfl, hK⟩
        obtain ⟨v6, rs6, hv6e, hv6, hr6, hn6⟩ := try_ringF (hv4.mono hG5) hv5 (hn4.mono hG5) hn5 (ot_b (r := rgl rs4) (o := closerR (rgl rs4) id rs4[m'].2.1)) hr5
        rw [hv6e] at hK
        refine xnk ((K.vle (K.sl hK) hG5)) fun hS => ?_
        refine xd kr <| ctn <| ?_
        exact ⟨(G5, v6, rs6), ⟨rfl, rfl, rfl, trivial⟩, hG5, hv6, hn6, by unfold clo1; rw [← hbn, if_pos (by unfold Pt at hbp; omega)]; exact hr6, hK⟩
       ·have hbn := hm'.bef
        refine sk <| ctn <| ?_
        exact ⟨(G4, v4, rs4), ⟨rfl, rfl, rfl, trivial⟩, VLe.refl _, hv4, hn4, by unfold clo1; rw [← hbn, if_neg (by omega)], hK⟩
      ·rintro ⟨G5, v5, rs5⟩ g w ⟨hG5, hv5, hn5, hr5, hK⟩
       simp only at hG5 hv5 hn5 hr5 hK
       have hs5 : RgSafe (rgl rs5) := by rw [hr5]; exact clo1_safe hs4
       have hi5 : ids (rgl rs5) = ids (rgl rs) := by rw [hr5, clo1_ids, hi4]
       obtain ⟨m5, hm5⟩ := NdA.of hv5 hs5.1 (by rw [hi5]; exact hid)
       have hsl5 := hv5.sl
       have hx5 := hm5.aft
       have hlt5 := hm5.lt
       have hlen5 := hm5.len
       have hp5 := hm5.pa0
       have hc5 : cellV G5 (elA rs5[m5].2.2.1 0) = some (.int .i64 (a0 (ndAt (rgl rs5) id))) := by rw [← hm5.ha0]; exact hx5.at _
       refine thn <| sq <| ?_
       refine rgs (fun w => K e w G5 L) (fun w => K _ w _ _) [U,U,U,U,U,U,U,U,U,U,U,U,U,U,U] 15 Ty.mixed rfl rfl (hK.drawn _) ?_
       intro w hK
       have hS : (fun w => K e w G5 L) w := K.sl hK
       refine xt (i := 0) rfl kr rfl rfl (fun w hK => mv) hS <| xt (i := 3) rfl kr rfl rfl (fun w hK => (mI rfl)) hS <| xt (i := 10) rfl kr rfl rfl (fun w hK => (mI rfl)) hS <| ?_
       refine xe2 (i := 1) (j := 2) kr rfl rfl rfl rfl ?_ ?_
       ·refine vl (ldO hK Ty.o31 0 rfl rfl rfl) <| ?_
        refine xnk (K.sl hK) fun hS => ?_
        refine xe (i := 2) kr rfl rfl ?_
        refine vl (ldO hK Ty.o31 0 rfl rfl rfl) <| ?_
        refine xnk (K.sl hK) fun hS => ?_
        refine xe (i := 4) kr rfl rfl ?_
        refine cl call91 rfl (nodeAt_in hK hv5 hm5) ?_
        rintro _ w ⟨rfl, hK⟩
        refine xnk (K.sl hK) fun hS => ?_
        refine xt (i := 5) rfl kr rfl rfl (fun w hK => (nc rfl)) hS <| xt (i := 6) rfl kr rfl rfl (fun w hK => (fe underlying79 rfl Ty.z25 rfl hsl5.1 om)) hS <| xt (i := 7) rfl kr rfl rfl (fun w hK => (ldV hK Ty.o25 rfl (by exact hsl5.cell om 2 rfl))) hS <| xt (i := 8) rfl kr rfl rfl (fun w hK => (ixn1 underlying25 Ty.s3 rfl hx5.1 rfl om)) hS <| xt (i := 9) rfl kr rfl rfl (fun w hK => (ldV hK Ty.o3 rfl hc5)) hS <| ?_
        refine xe (i := 11) kr rfl rfl ?_
        refine cl call119 rfl (implRingNotifyF_c hK hv5) ?_
        rintro _ w ⟨G6, hG6, hR6, hK⟩
        rw [tk_ot ⟨hs5, hp5, hpt⟩] at hR6
        obtain ⟨v6, rs6, rfl, hv6, hr6, hn6⟩ := hR6
        replace hn6 := hn6.older ((((hG1.trans hG2).trans hG3).trans hG4).trans hG5)
        rw [ot_1] at hr6
        refine xnk ((K.vle (K.sl hK) hG6)) fun hS => ?_
        refine xt (i := 12) rfl kr rfl rfl (fun w hK => (ext rfl rfl)) hS <| xt (i := 13) rfl kr rfl rfl (fun w hK => (ext rfl rfl)) hS <| ?_
        refine xe (i := 14) kr rfl rfl ?_
        refine cf (cap := [.pointer (some ⟨b6, 0, none⟩)]) (call115) rfl rfl (try_c (x := v6) hv6.sl.1.one hK) ?_
        rintro _ w ⟨rfl, hK⟩
        obtain ⟨v7, rs7, hv7e, hv7, hr7, hn7⟩ := try_ringF (hv5.mono hG6) hv6 (hn5.mono hG6) hn6 (ot_b (r := rgl rs5) (o := notifyR (rgl rs5) (a0 (ndAt (rgl rs5) id)) id)) hr6
        rw [hv7e] at hK
        refine xnk ((K.vle (K.sl hK) hG6)) fun hS => ?_
        refine xd kr <| thn <| sq <| rg <| vl (ldO hK Ty.o31 0 rfl rfl rfl) <| vl asg <| vl (aB rfl) <| nl <| thn <| rt <| p2r (a := _) (b := .bool _) rfl rfl <| ?_
        exact ⟨G6, v7, rs7, (((((hG1.trans hG2).trans hG3).trans hG4).trans hG5).trans hG6), rfl, hv7, hn7, by rw [hr7, hr5, hr4, hd]; rfl, hK.drop1⟩
       ·refine vl (ldO hK Ty.o31 0 rfl rfl rfl) <| ?_
        refine xnk (K.sl hK) fun hS => ?_
        refine xe2 (i := 1) (j := 4) kr rfl rfl rfl rfl ?_ ?_
        ·refine vl (ldO hK Ty.o31 0 rfl rfl rfl) <| ?_
         refine xnk (K.sl hK) fun hS => ?_
         refine xe (i := 4) kr rfl rfl ?_
         refine cl call91 rfl (nodeAt_in hK hv5 hm5) ?_
         rintro _ w ⟨rfl, hK⟩
         refine xnk (K.sl hK) fun hS => ?_
         refine xt (i := 5) rfl kr rfl rfl (fun w hK => (nc rfl)) hS <| xt (i := 6) rfl kr rfl rfl (fun w hK => (fe underlying79 rfl Ty.z25 rfl hsl5.1 om)) hS <| xt (i := 7) rfl kr rfl rfl (fun w hK => (ldV hK Ty.o25 rfl (by exact hsl5.cell om 2 rfl))) hS <| xt (i := 8) rfl kr rfl rfl (fun w hK => (ixn1 underlying25 Ty.s3 rfl hx5.1 rfl om)) hS <| xt (i := 9) rfl kr rfl rfl (fun w hK => (ldV hK Ty.o3 rfl hc5)) hS <| ?_
         refine xe (i := 11) kr rfl rfl ?_
         refine cl call119 rfl (implRingNotifyF_c hK hv5) ?_
         rintro _ w ⟨G6, hG6, hR6, hK⟩
         rw [tk_ot ⟨hs5, hp5, hpt⟩] at hR6
         obtain ⟨v6, rs6, rfl, hv6, hr6, hn6⟩ := hR6
         replace hn6 := hn6.older ((((hG1.trans hG2).trans hG3).trans hG4).trans hG5)
         rw [ot_1] at hr6
         refine xnk ((K.vle (K.sl hK) hG6)) fun hS => ?_
         refine xt (i := 12) rfl kr rfl rfl (fun w hK => (ext rfl rfl)) hS <| xt (i := 13) rfl kr rfl rfl (fun w hK => (ext rfl rfl)) hS <| ?_
         refine xe (i := 14) kr rfl rfl ?_
         refine cf (cap := [.pointer (some ⟨b6, 0, none⟩)]) (call115) rfl rfl (try_c (x := v6) hv6.sl.1.one hK) ?_
         rintro _ w ⟨rfl, hK⟩
         obtain ⟨v7, rs7, hv7e, hv7, hr7, hn7⟩ := try_ringF (hv5.mono hG6) hv6 (hn5.mono hG6) hn6 (ot_b (r := rgl rs5) (o := notifyR (rgl rs5) (a0 (ndAt (rgl rs5) id)) id)) hr6
         rw [hv7e] at hK
         refine xnk ((K.vle (K.sl hK) hG6)) fun hS => ?_
         refine xd kr <| thn <| sq <| rg <| vl (ldO hK Ty.o31 0 rfl rfl rfl) <| vl asg <| vl (aB rfl) <| nl <| thn <| rt <| p2r (a := _) (b := .bool _) rfl rfl <| ?_
         exact ⟨G6, v7, rs7, (((((hG1.trans hG2).trans hG3).trans hG4).trans hG5).trans hG6), rfl, hv7, hn7, by rw [hr7, hr5, hr4, hd]; rfl, hK.drop1⟩
        ·skip
         refine cl call91 rfl (nodeAt_in hK hv5 hm5) ?_
         rintro _ w ⟨rfl, hK⟩
         refine xnk (K.sl hK) fun hS => ?_
         refine xt (i := 5) rfl kr rfl rfl (fun w hK => (nc rfl)) hS <| xt (i := 6) rfl kr rfl rfl (fun w hK => (fe underlying79 rfl Ty.z25 rfl hsl5.1 om)) hS <| xt (i := 7) rfl kr rfl rfl (fun w hK => (ldV hK Ty.o25 rfl (by exact hsl5.cell om 2 rfl))) hS <| xt (i := 8) rfl kr rfl rfl (fun w hK => (ixn1 underlying25 Ty.s3 rfl hx5.1 rfl om)) hS <| xt (i := 9) rfl kr rfl rfl (fun w hK => (ldV hK Ty.o3 rfl hc5)) hS <| ?_
         refine xe (i := 1) kr rfl rfl ?_
         refine vl (ldO hK Ty.o31 0 rfl rfl rfl) <| ?_
         refine xnk (K.sl hK) fun hS => ?_
         refine xe (i := 11) kr rfl rfl ?_
         refine cl call119 rfl (implRingNotifyF_c hK hv5) ?_
         rintro _ w ⟨G6, hG6, hR6, hK⟩
         rw [tk_ot ⟨hs5, hp5, hpt⟩] at hR6
         obtain ⟨v6, rs6, rfl, hv6, hr6, hn6⟩ := hR6
         replace hn6 := hn6.older ((((hG1.trans hG2).trans hG3).trans hG4).trans hG5)
         rw [ot_1] at hr6
         refine xnk ((K.vle (K.sl hK) hG6)) fun hS => ?_
         refine xt (i := 12) rfl kr rfl rfl (fun w hK => (ext rfl rfl)) hS <| xt (i := 13) rfl kr rfl rfl (fun w hK => (ext rfl rfl)) hS <| ?_
         refine xe (i := 14) kr rfl rfl ?_
         refine cf (cap := [.pointer (some ⟨b6, 0, none⟩)]) (call115) rfl rfl (try_c (x := v6) hv6.sl.1.one hK) ?_
         rintro _ w ⟨rfl, hK⟩
         obtain ⟨v7, rs7, hv7e, hv7, hr7, hn7⟩ := try_ringF (hv5.mono hG6) hv6 (hn5.mono hG6) hn6 (ot_b (r := rgl rs5) (o := notifyR (rgl rs5) (a0 (ndAt (rgl rs5) id)) id)) hr6
         rw [hv7e] at hK
         refine xnk ((K.vle (K.sl hK) hG6)) fun hS => ?_
         refine xd kr <| thn <| sq <| rg <| vl (ldO hK Ty.o31 0 rfl rfl rfl) <| vl asg <| vl (aB rfl) <| nl <| thn <| rt <| p2r (a := _) (b := .bool _) rfl rfl <| ?_
         exact ⟨G6, v7, rs7, (((((hG1.trans hG2).trans hG3).trans hG4).trans hG5).trans hG6), rfl, hv7, hn7, by rw [hr7, hr5, hr4, hd]; rfl, hK.drop1⟩
     ·cases h5
end
open Go Go.Ro Tryz
section
variable {e w : World} {G G0 : View} {L A : Own} {v u : Value} {ls ms : List Ls} {k fr at' to un key now ow : Int} {i : Nat} {a0 a1 : Addr} {o : Option (List Ls)} {ok : Prop}
end
end Go.Proofs.YtmgggljicpmndaaGreat