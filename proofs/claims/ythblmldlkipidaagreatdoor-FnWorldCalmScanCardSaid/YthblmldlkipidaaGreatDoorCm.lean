/- The program's repair of a ring: by one node, by all, until nothing changes. The program's rounds of a ring, and quiet periods. Conditions: those that each row states. -/
import Derived.Test.YthblmldlkipidaaGreatDoorWa
import Derived.Test.YthblmldlkipidaaGreatDoorWe
import Derived.Test.YthblmldlkipidaaGreatDoorClN
import Derived.Test.YthblmldlkipidaaGreatDoorWt
import Derived.Test.YthblmldlkipidaaGreatDoorPz
namespace Go.Proofs.YthblmldlkipidaaGreatDoor
open Go Go.Ro

section
variable {e w : World} {G : View} {L A : Own} {v u : Value} {rs qs : List Rn} {id other k : Int} {i j : Nat}

theorem try_c {t b6 : Nat} {x : Value} {bb : Bool} (h1 : one x = true) (hK : K e w G ((b6, row [v] t) :: L)) :
  Ret Tryz.prog 188 #[x, .bool bb, .pointer (some ⟨b6, 0, none⟩)] w (fun r w' => r = .bool bb ∧ K e w' G ((b6, row [if bb then x else v] t) :: L)) := by
 refine enter1 (args := [x, .bool bb, .pointer (some ⟨b6, 0, none⟩)]) Tryz.func188 rfl rfl rfl rfl ?_
 refine sq <| rg <| ?_
 refine vl (aB rfl) <| nl <| thn <| sq <| sq <| rg <| vl (mB rfl) <| nl <| thn <| ?_
 refine cdB rfl (fun hc => ?_) (fun hc => ?_)
 ·subst hc
  refine rg <| ?_
  refine vl mv <| ?_
  refine so hK Ty.i23 rfl 0 rfl rfl rfl h1 rfl ?_
  intro w hK
  refine nl <| thn <| sq <| rg <| vl (mB rfl) <| vl (aB rfl) <| nl <| thn <| rt <| p1r (a := .bool _) rfl <| ?_
  exact ⟨rfl, hK⟩
 ·subst hc
  refine sk <| thn <| sq <| rg <| ?_
  refine vl (mB rfl) <| vl (aB rfl) <| nl <| thn <| rt <| p1r (a := .bool _) rfl <| ?_
  exact ⟨rfl, hK⟩

theorem try_ring {rs' : List Rn} {v' : Value} {o : Option (List Nd)} {bb : Bool} (h : RngS G v rs) (h' : RngS G v' rs') (hb : bb = o.isSome) (hr : rgl rs' = o.getD (rgl rs)) : ∃ x xs, (if bb then v' else v) = x ∧ RngS G x xs ∧ rgl xs = o.getD (rgl rs) := by
 cases o with
 | none => subst hb; exact ⟨v, rs, if_neg (by simp), h, rfl⟩
 | some y => subst hb; exact ⟨v', rs', if_pos rfl, h', hr⟩

set_option maxHeartbeats 1000000 in
theorem implStabilize_c (hK : K e w G L) (hv : RngS G v rs) (hsf : RgSafe (rgl rs)) (hid : id ∈ ids (rgl rs)) :
  Ret Tryz.prog 151 #[v, .int .i64 id] w (fun r w' => ∃ G' v' rs', VLe G G' ∧ r = .tuple #[v', .bool true] ∧ RngS G' v' rs' ∧ rgl rs' = stabR (rgl rs) id ∧ K e w' G' L) := by
 have hpt := hsf.1.ptId hid
 refine enter2 (args := [v, .int .i64 id]) Tryz.func151 rfl rfl rfl rfl ?_
 refine sq <| rg <| ?_
 refine vl asg <| vl (aB rfl) <| nl <| thn <| sq <| sq <| rg <| vl mv <| ?_
 refine cl Tryz.call58 rfl (implRingSafe_c hK hv) ?_
 rintro _ w ⟨rfl, hK⟩
 refine vl (ntB rfl) <| vl (mB rfl) <| ?_
 refine spl (t := 12) rfl (fun h1 => ?_) (fun h1 => ?_)
 ·exact absurd hsf (not_dec (Eq.mp (Bool.not_eq_true' _) h1))
 ·refine gy rfl <| vl (mI rfl) <| gy rfl <| ?_
  refine cl Tryz.call70 rfl (posok_c (C := fun w => K _ w _ _) hK) ?_
  rintro _ w ⟨rfl, hK⟩
  refine gy rfl <| vl (ntB rfl) <| vl (pk rfl) <| nl <| thn <| ?_
  refine cdB rfl (fun h2 => ?_) (fun h2 => ?_)
  ·exact absurd hpt (of_decide_eq_false (Eq.mp (Bool.not_eq_true' _) h2))
  ·refine sk <| thn <| sq <| rg <| ?_
   refine vl mv <| ?_
   refine cl Tryz.call79 rfl (copyRing_v hK hv hsf.1) ?_
   rintro v1 w ⟨G1, rs1, hG1, hr1, hv1, hK⟩
   obtain ⟨m1, hm1⟩ := NdA.of hv1 (by rw [hr1]; exact hsf.1) (by rw [hr1]; exact hid)
   refine al hK Ty.i23 rfl ?_
   intro b6 w hK
   refine so hK Ty.i23 rfl 0 rfl rfl rfl hv1.sl.1.one rfl ?_
   intro w hK
   refine nl <| thn <| sq <| sq <| rg <| vl (ldO hK Ty.o23 0 rfl rfl rfl) <| vl (mI rfl) <| ?_
   refine cl Tryz.call105 rfl (nodeAt_in hK hv1 hm1) ?_
   rintro _ w ⟨rfl, hK⟩
   refine vl (eqPn Tryz.underlying116 rfl rfl) <| nl <| thn <| ?_
   refine cdB rfl (fun h3 => ?_) (fun h3 => ?_)
   ·cases h3
   ·refine sk <| thn <| sq <| rg <| ?_
    refine vl (mkf rfl) <| vl asg <| nl <| thn <| sq <| bk <| ?_
    refine lp (σ := Nat × View × Value × List Rn) (fun s => [(1, .int .i64 id), (6, .pointer (some ⟨b6, 0, none⟩)), (7, .func (.func 188) #[] #[.pointer (some ⟨b6, 0, none⟩)])]) (fun s w => s.1 ≤ 1 ∧ VLe G1 s.2.1 ∧ RngS s.2.1 s.2.2.1 s.2.2.2 ∧ ((s.1 = 1 ∧ rgl s.2.2.2 = rgl rs) ∨ (s.1 = 0 ∧ rgl s.2.2.2 = dr (rgl rs) id)) ∧ K e w s.2.1 ((b6, row [s.2.2.1] 23) :: L)) (fun s => s.1) (1, G1, v1, rs1) ⟨rfl, rfl, rfl, trivial⟩ ⟨Nat.le_refl _, VLe.refl _, hv1, .inl ⟨rfl, hr1⟩, hK⟩ ?_
    clear hv1 hK hm1
    rintro ⟨n, G2, v2, rs2⟩ g w ⟨hn, hG2, hv2, hr2, hK⟩
    simp only at hn hG2 hv2 hr2 hK
    have hs2 : RgSafe (rgl rs2) := by
     rcases hr2 with h | h
     ·rw [h.2]; exact hsf
     ·rw [h.2]; exact dr_safe hsf
    refine sq <| sq <| rg <| ?_
    refine vl mv <| vl (ldO hK Ty.o23 0 rfl rfl rfl) <| vl (mI rfl) <| ?_
    refine cl Tryz.call173 rfl (implRingDrop_c hK hv2) ?_
    rintro _ w ⟨G3, hG3, hR3, hK⟩
    rw [tk_ot ⟨hs2, hpt⟩] at hR3
    obtain ⟨v3, rs3, rfl, hv3, hr3⟩ := hR3
    rw [ot_dr] at hr3
    refine vl (ext rfl rfl) <| vl (ext rfl rfl) <| ?_
    refine cf (cap := [.pointer (some ⟨b6, 0, none⟩)]) (Tryz.call188) rfl rfl (try_c (x := v3) hv3.sl.1.one hK) ?_
    rintro _ w ⟨rfl, hK⟩
    refine nl <| thn <| ?_
    refine cdB rfl (fun h4 => ?_) (fun h4 => ?_)
    ·rw [if_pos h4] at hK
     rw [ot_b] at h4
     have hn1 : n = 1 ∧ rgl rs2 = rgl rs := by
      rcases hr2 with h | h
      ·exact h
      ·exfalso
       have hl := dr_live hsf hid
       rw [h.2, dropR_no (fun g => g.2 hl)] at h4
       cases h4
     refine sk <| thn <| bk <| sk <| bkn <| thn <| ?_
     exact ⟨(0, G3, v3, rs3), ⟨rfl, rfl, rfl, trivial⟩, ⟨Nat.zero_le _, hG2.trans hG3, hv3, .inr ⟨rfl, by rw [hr3, hn1.2]⟩, hK⟩, by simp only; omega⟩
    ·rw [if_neg (by rw [h4]; simp)] at hK
     rw [ot_b] at h4
     have hno : dropR (rgl rs2) id = none := by simpa using h4
     have hd : rgl rs2 = drN 2 (rgl rs) id := by
      rcases hr2 with h | h
      ·rw [h.2] at hno ⊢; exact (drN_fix (dr_none hno) 2).symm
      ·rw [h.2] at hno ⊢; exact (dr_none hno).symm
     have hi2 : ids (rgl rs2) = ids (rgl rs) := by rw [hd]; exact drN_ids 2 _
     have hid2 : id ∈ ids (rgl rs2) := by rw [hi2]; exact hid
     have ha2 : a0 (ndAt (rgl rs2) id) ∈ ids (rgl rs2) := by
      by_cases ha : a0 (ndAt (rgl rs2) id) ∈ ids (rgl rs2)
      ·exact ha
      ·rw [dropR_yes ⟨hid2, ha⟩] at hno; cases hno
     have hv2 := hv2.mono hG3
     refine ex <| the <| the <| bkh <| thn <| sq <| rg <| ?_
     refine vl mv <| vl (ldO hK Ty.o23 0 rfl rfl rfl) <| vl (mI rfl) <| ?_
     refine cl Tryz.call174 rfl (implRingAdopt_c hK hv2) ?_
     rintro _ w ⟨G4, hG4, hR4, hK⟩
     rw [tk_ot ⟨hs2, hpt⟩] at hR4
     obtain ⟨v4, rs4, rfl, hv4, hr4⟩ := hR4
     rw [ot_1] at hr4
     replace hr4 : rgl rs4 = ad1 (rgl rs2) id := hr4
     refine vl (ext rfl rfl) <| vl (ext rfl rfl) <| ?_
     refine cf (cap := [.pointer (some ⟨b6, 0, none⟩)]) (Tryz.call188) rfl rfl (try_c (x := v4) hv4.sl.1.one hK) ?_
     rintro _ w ⟨rfl, hK⟩
     rw [if_pos (show (ot (rgl rs2) (adoptR (rgl rs2) id)).2 = true by rw [ot_b, adoptR_yes ⟨hid2, ha2⟩]; rfl)] at hK
     have hs4 : RgSafe (rgl rs4) := by rw [hr4]; exact ad1_safe hs2
     have hi4 : ids (rgl rs4) = ids (rgl rs) := by rw [hr4, ad1_ids, hi2]
     have ha4 : a0 (ndAt (rgl rs4) id) ∈ ids (rgl rs4) := by rw [hi4, ← hi2, hr4]; exact ad1_live hid2 ha2
     obtain ⟨m, hm⟩ := NdA.of hv4 hs4.1 (by rw [hi4]; exact hid)
     obtain ⟨m', hm'⟩ := NdA.of hv4 hs4.1 ha4
     have hsl4 := hv4.sl
     have hx4 := hm.aft
     have hlt4 := hm.lt
     have hlen4 := hm.len
     have hlt4' := hm'.lt
     have hc4 : cellV G4 (elA rs4[m].2.2.1 0) = some (.int .i64 (a0 (ndAt (rgl rs4) id))) := by rw [← hm.ha0]; exact hx4.at _
     refine nl <| thn <| sq <| sq <| ?_
     refine rgs (fun w => K e w G4 ((b6, row [v4] 23) :: L)) (fun w => K _ w _ _) [U,U,U,U,U,U,U,U,U,U,U] 11 Ty.mixed rfl rfl (hK.drawn _) ?_
     intro w hK
     have hS : (fun w => K e w G4 ((b6, row [v4] 23) :: L)) w := K.sl hK
     refine xt (i := 0) rfl kr rfl rfl (fun w hK => (ldO hK Ty.o23 0 rfl rfl rfl)) hS <| ?_; refine xt (i := 1) rfl kr rfl rfl (fun w hK => (ldO hK Ty.o23 0 rfl rfl rfl)) hS <| ?_; refine xt (i := 2) rfl kr rfl rfl (fun w hK => (mI rfl)) hS <| ?_
     refine xe (i := 3) kr rfl rfl ?_
     refine cl Tryz.call105 rfl (nodeAt_in hK hv4 hm) ?_
     rintro _ w ⟨rfl, hK⟩
     refine xnk (K.sl hK) fun hS => ?_
     refine xt (i := 4) rfl kr rfl rfl (fun w hK => (nc rfl)) hS <| ?_; refine xt (i := 5) rfl kr rfl rfl (fun w hK => (fe Tryz.underlying40 rfl Ty.z26 rfl hsl4.1 om)) hS <| ?_; refine xt (i := 6) rfl kr rfl rfl (fun w hK => (ldV hK Ty.o26 rfl (by exact hsl4.cell om 2 rfl))) hS <| ?_; refine xt (i := 7) rfl kr rfl rfl (fun w hK => (ixn1 Tryz.underlying26 Ty.s3 rfl hx4.1 rfl om)) hS <| ?_; refine xt (i := 8) rfl kr rfl rfl (fun w hK => (ldV hK Ty.o3 rfl hc4)) hS <| ?_
     refine xe (i := 9) kr rfl rfl ?_
     refine cl Tryz.call105 rfl (nodeAt_in hK hv4 hm') ?_
     rintro _ w ⟨rfl, hK⟩
     refine xnk (K.sl hK) fun hS => ?_
     refine xt (i := 10) rfl kr rfl rfl (fun w hK => asg) hS <| ?_; refine xd kr <| thn <| sq <| rg <| vl mv <| vl (nePn Tryz.underlying116 rfl rfl) <| vl (mB rfl) <| ?_
     refine spl (t := 51) rfl (fun h5 => ?_) (fun h5 => ?_)
     ·refine gy rfl <| vl mv <| gy rfl <| vl (nc rfl) <| gy rfl <| vl (fe Tryz.underlying40 rfl Ty.z3 rfl hsl4.1 om) <| gy rfl <| vl (ldV hK Ty.o3 rfl (hsl4.cell om 1 rfl)) <| gy rfl <| vl (ne rfl rfl) <| vl (pk rfl) <| nl <| thn <| ?_
      refine ct (σ := View × Value × List Rn) (fun s => [(1, .int .i64 id), (6, .pointer (some ⟨b6, 0, none⟩)), (7, .func (.func 188) #[] #[.pointer (some ⟨b6, 0, none⟩)])]) (fun s w => VLe G4 s.1 ∧ RngS s.1 s.2.1 s.2.2 ∧ rgl s.2.2 = clo1 (rgl rs4) id ∧ K e w s.1 ((b6, row [s.2.1] 23) :: L)) ?_ ?_
      ·refine cdP rfl (fun h6 => ?_) (fun h6 => ?_)
       ·have hbn := hm'.bef
        have hbp : Pt rs4[m'].2.1 := by
         rcases (hs4.1.2.1 _ (ndAt_mem ha4)).2.1 with g | g
         ·rw [← hbn] at g; exact absurd g h6
         ·rw [← hbn] at g; exact g
        refine rgs (fun w => K e w G4 L) (fun w => K _ w _ _) [U,U,U,U,U,U,U,U,U,U,U] 11 Ty.mixed rfl rfl (hK.drawn _) ?_
        intro w hK
        have hS : (fun w => K e w G4 L) w := K.sl hK
        refine xt (i := 0) rfl kr rfl rfl (fun w hK => mv) hS <| ?_; refine xt (i := 2) rfl kr rfl rfl (fun w hK => (mI rfl)) hS <| ?_; refine xt (i := 3) rfl kr rfl rfl (fun w hK => mv) hS <| ?_; refine xt (i := 4) rfl kr rfl rfl (fun w hK => (nc rfl)) hS <| ?_; refine xt (i := 5) rfl kr rfl rfl (fun w hK => (fe Tryz.underlying40 rfl Ty.z3 rfl hsl4.1 om)) hS <| ?_; refine xt (i := 6) rfl kr rfl rfl (fun w hK => (ldV hK Ty.o3 rfl (by exact hsl4.cell om 1 rfl))) hS <| ?_
        refine xe (i := 1) kr rfl rfl ?_
        refine vl (ldO hK Ty.o23 0 rfl rfl rfl) <| ?_
        refine xnk (K.sl hK) fun hS => ?_
        refine xe (i := 7) kr rfl rfl ?_
        refine cl Tryz.call175 rfl (implRingCloser_c hK hv4) ?_
        rintro _ w ⟨G5, hG5, hR5, hK⟩
        rw [tk_ot ⟨hs4, hpt, hbp⟩] at hR5
        obtain ⟨v5, rs5, rfl, hv5, hr5⟩ := hR5
        rw [ot_1] at hr5
        refine xnk ((K.vle (K.sl hK) hG5)) fun hS => ?_
        refine xt (i := 8) rfl kr rfl rfl (fun w hK => (ext rfl rfl)) hS <| ?_; refine xt (i := 9) rfl kr rfl rfl (fun w hK => (ext rfl rfl)) hS <| ?_
        refine xe (i := 10) kr rfl rfl ?_
        refine cf (cap := [.pointer (some ⟨b6, 0, none⟩)]) (Tryz.call188) rfl rfl (try_c (x := v5) hv5.sl.1.one hK) ?_
        rintro _ w ⟨rfl, hK⟩
        obtain ⟨v6, rs6, hv6e, hv6, hr6⟩ := try_ring (hv4.mono hG5) hv5 (ot_b (r := rgl rs4) (o := closerR (rgl rs4) id rs4[m'].2.1)) hr5
        rw [hv6e] at hK
        refine xnk ((K.vle (K.sl hK) hG5)) fun hS => ?_
        refine xd kr <| ctn <| ?_
        exact ⟨(G5, v6, rs6), ⟨rfl, rfl, rfl, trivial⟩, hG5, hv6, by unfold clo1; rw [← hbn, if_pos (by unfold Pt at hbp; omega)]; exact hr6, hK⟩
       ·have hbn := hm'.bef
        refine sk <| ctn <| ?_
        exact ⟨(G4, v4, rs4), ⟨rfl, rfl, rfl, trivial⟩, VLe.refl _, hv4, by unfold clo1; rw [← hbn, if_neg (by omega)], hK⟩
      ·rintro ⟨G5, v5, rs5⟩ g w ⟨hG5, hv5, hr5, hK⟩
       simp only at hG5 hv5 hr5 hK
       have hs5 : RgSafe (rgl rs5) := by rw [hr5]; exact clo1_safe hs4
       have hi5 : ids (rgl rs5) = ids (rgl rs) := by rw [hr5, clo1_ids, hi4]
       obtain ⟨m5, hm5⟩ := NdA.of hv5 hs5.1 (by rw [hi5]; exact hid)
       have hsl5 := hv5.sl
       have hx5 := hm5.aft
       have hlt5 := hm5.lt
       have hlen5 := hm5.len
       have hp5 := hm5.pa0
       have hc5 : cellV G5 (elA rs5[m5].2.2.1 0) = some (.int .i64 (a0 (ndAt (rgl rs5) id))) := by rw [← hm5.ha0]; exact hx5.at _
       refine thn <| sq <| ?_
       refine rgs (fun w => K e w G5 L) (fun w => K _ w _ _) [U,U,U,U,U,U,U,U,U,U,U,U,U,U,U] 15 Ty.mixed rfl rfl (hK.drawn _) ?_
       intro w hK
       have hS : (fun w => K e w G5 L) w := K.sl hK
       refine xt (i := 0) rfl kr rfl rfl (fun w hK => mv) hS <| ?_; refine xt (i := 3) rfl kr rfl rfl (fun w hK => (mI rfl)) hS <| ?_; refine xt (i := 10) rfl kr rfl rfl (fun w hK => (mI rfl)) hS <| ?_
       refine xe2 (i := 1) (j := 2) kr rfl rfl rfl rfl ?_ ?_
       ·refine vl (ldO hK Ty.o23 0 rfl rfl rfl) <| ?_
        refine xnk (K.sl hK) fun hS => ?_
        refine xe (i := 2) kr rfl rfl ?_
        refine vl (ldO hK Ty.o23 0 rfl rfl rfl) <| ?_
        refine xnk (K.sl hK) fun hS => ?_
        refine xe (i := 4) kr rfl rfl ?_
        refine cl Tryz.call105 rfl (nodeAt_in hK hv5 hm5) ?_
        rintro _ w ⟨rfl, hK⟩
        refine xnk (K.sl hK) fun hS => ?_
        refine xt (i := 5) rfl kr rfl rfl (fun w hK => (nc rfl)) hS <| ?_; refine xt (i := 6) rfl kr rfl rfl (fun w hK => (fe Tryz.underlying40 rfl Ty.z26 rfl hsl5.1 om)) hS <| ?_; refine xt (i := 7) rfl kr rfl rfl (fun w hK => (ldV hK Ty.o26 rfl (by exact hsl5.cell om 2 rfl))) hS <| ?_; refine xt (i := 8) rfl kr rfl rfl (fun w hK => (ixn1 Tryz.underlying26 Ty.s3 rfl hx5.1 rfl om)) hS <| ?_; refine xt (i := 9) rfl kr rfl rfl (fun w hK => (ldV hK Ty.o3 rfl hc5)) hS <| ?_
        refine xe (i := 11) kr rfl rfl ?_
        refine cl Tryz.call176 rfl (implRingNotify_c hK hv5) ?_
        rintro _ w ⟨G6, hG6, hR6, hK⟩
        rw [tk_ot ⟨hs5, hp5, hpt⟩] at hR6
        obtain ⟨v6, rs6, rfl, hv6, hr6⟩ := hR6
        rw [ot_1] at hr6
        refine xnk ((K.vle (K.sl hK) hG6)) fun hS => ?_
        refine xt (i := 12) rfl kr rfl rfl (fun w hK => (ext rfl rfl)) hS <| ?_; refine xt (i := 13) rfl kr rfl rfl (fun w hK => (ext rfl rfl)) hS <| ?_
        refine xe (i := 14) kr rfl rfl ?_
        refine cf (cap := [.pointer (some ⟨b6, 0, none⟩)]) (Tryz.call188) rfl rfl (try_c (x := v6) hv6.sl.1.one hK) ?_
        rintro _ w ⟨rfl, hK⟩
        obtain ⟨v7, rs7, hv7e, hv7, hr7⟩ := try_ring (hv5.mono hG6) hv6 (ot_b (r := rgl rs5) (o := notifyR (rgl rs5) (a0 (ndAt (rgl rs5) id)) id)) hr6
        rw [hv7e] at hK
        refine xnk ((K.vle (K.sl hK) hG6)) fun hS => ?_
        refine xd kr <| thn <| sq <| rg <| vl (ldO hK Ty.o23 0 rfl rfl rfl) <| vl asg <| vl (aB rfl) <| nl <| thn <| rt <| p2r (a := _) (b := .bool _) rfl rfl <| ?_
        exact ⟨G6, v7, rs7, (((((hG1.trans hG2).trans hG3).trans hG4).trans hG5).trans hG6), rfl, hv7, by rw [hr7, hr5, hr4, hd]; rfl, hK.drop1⟩
       ·refine vl (ldO hK Ty.o23 0 rfl rfl rfl) <| ?_
        refine xnk (K.sl hK) fun hS => ?_
        refine xe2 (i := 1) (j := 4) kr rfl rfl rfl rfl ?_ ?_
        ·refine vl (ldO hK Ty.o23 0 rfl rfl rfl) <| ?_
         refine xnk (K.sl hK) fun hS => ?_
         refine xe (i := 4) kr rfl rfl ?_
         refine cl Tryz.call105 rfl (nodeAt_in hK hv5 hm5) ?_
         rintro _ w ⟨rfl, hK⟩
         refine xnk (K.sl hK) fun hS => ?_
         refine xt (i := 5) rfl kr rfl rfl (fun w hK => (nc rfl)) hS <| ?_; refine xt (i := 6) rfl kr rfl rfl (fun w hK => (fe Tryz.underlying40 rfl Ty.z26 rfl hsl5.1 om)) hS <| ?_; refine xt (i := 7) rfl kr rfl rfl (fun w hK => (ldV hK Ty.o26 rfl (by exact hsl5.cell om 2 rfl))) hS <| ?_; refine xt (i := 8) rfl kr rfl rfl (fun w hK => (ixn1 Tryz.underlying26 Ty.s3 rfl hx5.1 rfl om)) hS <| ?_; refine xt (i := 9) rfl kr rfl rfl (fun w hK => (ldV hK Ty.o3 rfl hc5)) hS <| ?_
         refine xe (i := 11) kr rfl rfl ?_
         refine cl Tryz.call176 rfl (implRingNotify_c hK hv5) ?_
         rintro _ w ⟨G6, hG6, hR6, hK⟩
         rw [tk_ot ⟨hs5, hp5, hpt⟩] at hR6
         obtain ⟨v6, rs6, rfl, hv6, hr6⟩ := hR6
         rw [ot_1] at hr6
         refine xnk ((K.vle (K.sl hK) hG6)) fun hS => ?_
         refine xt (i := 12) rfl kr rfl rfl (fun w hK => (ext rfl rfl)) hS <| ?_; refine xt (i := 13) rfl kr rfl rfl (fun w hK => (ext rfl rfl)) hS <| ?_
         refine xe (i := 14) kr rfl rfl ?_
         refine cf (cap := [.pointer (some ⟨b6, 0, none⟩)]) (Tryz.call188) rfl rfl (try_c (x := v6) hv6.sl.1.one hK) ?_
         rintro _ w ⟨rfl, hK⟩
         obtain ⟨v7, rs7, hv7e, hv7, hr7⟩ := try_ring (hv5.mono hG6) hv6 (ot_b (r := rgl rs5) (o := notifyR (rgl rs5) (a0 (ndAt (rgl rs5) id)) id)) hr6
         rw [hv7e] at hK
         refine xnk ((K.vle (K.sl hK) hG6)) fun hS => ?_
         refine xd kr <| thn <| sq <| rg <| vl (ldO hK Ty.o23 0 rfl rfl rfl) <| vl asg <| vl (aB rfl) <| nl <| thn <| rt <| p2r (a := _) (b := .bool _) rfl rfl <| ?_
         exact ⟨G6, v7, rs7, (((((hG1.trans hG2).trans hG3).trans hG4).trans hG5).trans hG6), rfl, hv7, by rw [hr7, hr5, hr4, hd]; rfl, hK.drop1⟩
        ·skip
         refine cl Tryz.call105 rfl (nodeAt_in hK hv5 hm5) ?_
         rintro _ w ⟨rfl, hK⟩
         refine xnk (K.sl hK) fun hS => ?_
         refine xt (i := 5) rfl kr rfl rfl (fun w hK => (nc rfl)) hS <| ?_; refine xt (i := 6) rfl kr rfl rfl (fun w hK => (fe Tryz.underlying40 rfl Ty.z26 rfl hsl5.1 om)) hS <| ?_; refine xt (i := 7) rfl kr rfl rfl (fun w hK => (ldV hK Ty.o26 rfl (by exact hsl5.cell om 2 rfl))) hS <| ?_; refine xt (i := 8) rfl kr rfl rfl (fun w hK => (ixn1 Tryz.underlying26 Ty.s3 rfl hx5.1 rfl om)) hS <| ?_; refine xt (i := 9) rfl kr rfl rfl (fun w hK => (ldV hK Ty.o3 rfl hc5)) hS <| ?_
         refine xe (i := 1) kr rfl rfl ?_
         refine vl (ldO hK Ty.o23 0 rfl rfl rfl) <| ?_
         refine xnk (K.sl hK) fun hS => ?_
         refine xe (i := 11) kr rfl rfl ?_
         refine cl Tryz.call176 rfl (implRingNotify_c hK hv5) ?_
         rintro _ w ⟨G6, hG6, hR6, hK⟩
         rw [tk_ot ⟨hs5, hp5, hpt⟩] at hR6
         obtain ⟨v6, rs6, rfl, hv6, hr6⟩ := hR6
         rw [ot_1] at hr6
         refine xnk ((K.vle (K.sl hK) hG6)) fun hS => ?_
         refine xt (i := 12) rfl kr rfl rfl (fun w hK => (ext rfl rfl)) hS <| ?_; refine xt (i := 13) rfl kr rfl rfl (fun w hK => (ext rfl rfl)) hS <| ?_
         refine xe (i := 14) kr rfl rfl ?_
         refine cf (cap := [.pointer (some ⟨b6, 0, none⟩)]) (Tryz.call188) rfl rfl (try_c (x := v6) hv6.sl.1.one hK) ?_
         rintro _ w ⟨rfl, hK⟩
         obtain ⟨v7, rs7, hv7e, hv7, hr7⟩ := try_ring (hv5.mono hG6) hv6 (ot_b (r := rgl rs5) (o := notifyR (rgl rs5) (a0 (ndAt (rgl rs5) id)) id)) hr6
         rw [hv7e] at hK
         refine xnk ((K.vle (K.sl hK) hG6)) fun hS => ?_
         refine xd kr <| thn <| sq <| rg <| vl (ldO hK Ty.o23 0 rfl rfl rfl) <| vl asg <| vl (aB rfl) <| nl <| thn <| rt <| p2r (a := _) (b := .bool _) rfl rfl <| ?_
         exact ⟨G6, v7, rs7, (((((hG1.trans hG2).trans hG3).trans hG4).trans hG5).trans hG6), rfl, hv7, by rw [hr7, hr5, hr4, hd]; rfl, hK.drop1⟩
     ·cases h5
end
end Go.Proofs.YthblmldlkipidaaGreatDoor

namespace Go.Proofs.YthblmldlkipidaaGreatDoor
open Go Go.Ro

section
variable {e w : World} {G : View} {L A : Own} {v u : Value} {rs qs : List Rn} {W W' : Wv} {wd wd' : Wd} {id other k : Int} {i j : Nat}

theorem rnd_take {r : List Nd} {ks : List Int} {n : Nat} (h : n < ks.length) : rndR r (ks.take (n + 1)) = stabR (rndR r (ks.take n)) ks[n] := by
 rw [List.take_succ_eq_append_getElem h]; unfold rndR; rw [List.foldl_append]; rfl

theorem implRound_c (hK : K e w G L) (hv : RngS G v rs) (hsf : RgSafe (rgl rs)) :
  Ret Tryz.prog 110 #[v] w (fun r w' => ∃ G' rs', VLe G G' ∧ RngS G' r rs' ∧ rgl rs' = rnd (rgl rs) ∧ K e w' G' L) := by
 have hlen : rs.length ≤ 10 := by rw [← rg_len]; exact hsf.1.1
 refine enter1 (args := [v]) Tryz.func110 rfl rfl rfl rfl ?_
 refine sq <| rg <| ?_
 refine vl asg <| nl <| thn <| sq <| sq <| rg <| vl mv <| ?_
 refine cl Tryz.call58 rfl (implRingSafe_c hK hv) ?_
 rintro _ w ⟨rfl, hK⟩
 refine vl (ntB rfl) <| nl <| thn <| ?_
 refine cdB rfl (fun h1 => ?_) (fun h1 => ?_)
 ·exact absurd hsf (not_dec (Eq.mp (Bool.not_eq_true' _) h1))
 ·refine sk <| thn <| sq <| rg <| ?_
  refine vl mv <| ?_
  refine cl Tryz.call79 rfl (copyRing_v hK hv hsf.1) ?_
  rintro v1 w ⟨G1, rs1, hG1, hr1, hv1, hK⟩
  refine vl asg <| nl <| thn <| sq <| sq <| rg <| vl mv <| ?_
  refine cl Tryz.call68 rfl (idsOf_c hK (hv.mono hG1) om) ?_
  rintro u w ⟨A, ho, hK⟩
  rw [show ints (rs.map (·.1)) = ints (ids (rgl rs)) by rw [ids_rg], show rs.length = (ids (rgl rs)).length by rw [ids_rg, List.length_map]] at ho
  obtain ⟨G2, hG2, hu, hK⟩ := K.pubO hK ho
  have hG := hG1.trans hG2
  have hv2 := hv1.mono hG2
  have hil : (ids (rgl rs)).length = rs.length := by rw [ids_len, rg_len]
  refine vl (ln Tryz.underlying26 rfl hu.len) <| vl (mI rfl) <| nl <| thn <| bk <| ?_
  refine lp (σ := Nat × View × Value × List Rn) (fun s => [(3, s.2.2.1), (14, u), (15, .int .i64 ((ids (rgl rs)).length : Int)), (16, .int .i64 (s.1 : Int))]) (fun s w => s.1 ≤ (ids (rgl rs)).length ∧ VLe G2 s.2.1 ∧ RngS s.2.1 s.2.2.1 s.2.2.2 ∧ rgl s.2.2.2 = rndR (rgl rs) ((ids (rgl rs)).take s.1) ∧ K e w s.2.1 L) (fun s => (ids (rgl rs)).length - s.1) (0, G2, v1, rs1) ⟨rfl, rfl, rfl, rfl, trivial⟩ ⟨Nat.zero_le _, VLe.refl _, hv2, hr1, hK⟩ ?_
  clear hK hv1 hv2 hr1
  rintro ⟨n, G3, v3, rs3⟩ g w ⟨hn, hG3, hv3, hr3, hK⟩
  simp only at hn hG3 hv3 hr3 hK
  replace hu := hu.mono hG3
  refine sq <| rg <| ?_
  refine vl (lt rfl rfl) <| nl <| thn <| sq <| ?_
  refine cdP rfl (fun hc => ?_) (fun hc => ?_)
  ·have hn' : n < (ids (rgl rs)).length := by simp only at hc; omega
   have hs3 : RgSafe (rgl rs3) := by rw [hr3]; exact rndR_safe _ hsf
   have hi3 : (ids (rgl rs))[n] ∈ ids (rgl rs3) := by rw [hr3, rndR_ids]; exact List.getElem_mem _
   refine sk <| thn <| sq <| bk <| sq <| rg <| ?_
   refine vl (ixm1 (m := n) Tryz.underlying26 Ty.s3 rfl hu.1 rfl om om) <| vl (ldV hK Ty.o3 rfl (hu.at om)) <| vl (aI rfl) <| nl <| thn <| sq <| rg <| vl mv <| vl (mI rfl) <| ?_
   refine cl Tryz.call151 rfl (implStabilize_c hK hv3 hs3 hi3) ?_
   rintro _ w ⟨G4, v4, rs4, hG4, rfl, hv4, hr4, hK⟩
   refine vl mv <| vl (ext rfl rfl) <| vl (ext rfl rfl) <| vl asg <| vl (aB rfl) <| nl <| thn <| sq <| rg <| vl (mB rfl) <| nl <| thn <| ?_
   refine cdB rfl (fun h2 => ?_) (fun h2 => ?_)
   ·refine rg <| ?_
    refine vl mv <| vl asg <| nl <| bkn <| thn <| rg <| vl (ad rfl rfl) <| vl (mI rfl) <| nl <| thn <| ?_
    exact ⟨(n + 1, G4, v4, rs4), ⟨rfl, rfl, rfl, rfl, trivial⟩, ⟨hn', hG3.trans hG4, hv4, by rw [hr4, hr3, rnd_take hn'], hK⟩, by simp only; omega⟩
   ·cases h2
  ·have hn' : n = (ids (rgl rs)).length := by simp only at hc; omega
   subst hn'
   rw [List.take_length] at hr3
   refine ex <| the <| the <| bkh <| thn <| sq <| rg <| ?_
   refine vl mv <| vl asg <| nl <| thn <| rt <| p1r (a := _) rfl <| ?_
   exact ⟨G3, rs3, hG.trans hG3, hv3, hr3, hK⟩

theorem implRingCalm_c (hK : K e w G L) (hv : RngS G v rs) (hsf : RgSafe (rgl rs)) :
  Ret Tryz.prog 65 #[v] w (fun r w' => ∃ G' rs', VLe G G' ∧ RngS G' r rs' ∧ rgl rs' = idl (ids (rgl rs)) ∧ K e w' G' L) := by
 rw [← calR_ideal hsf]
 refine enter1 (args := [v]) Tryz.func65 rfl rfl rfl rfl ?_
 refine sq <| rg <| ?_
 refine vl asg <| nl <| thn <| sq <| rg <| vl mv <| ?_
 refine cl Tryz.call79 rfl (copyRing_v hK hv hsf.1) ?_
 rintro v1 w ⟨G1, rs1, hG1, hr1, hv1, hK⟩
 refine vl asg <| nl <| thn <| bk <| ?_
 refine lp (σ := View × Value × List Rn) (fun s => [(3, s.2.1)]) (fun s w => VLe G1 s.1 ∧ RngS s.1 s.2.1 s.2.2 ∧ RgSafe (rgl s.2.2) ∧ calR (rgl s.2.2) = calR (rgl rs) ∧ K e w s.1 L) (fun s => msr (rgl s.2.2)) (G1, v1, rs1) ⟨rfl, trivial⟩ ⟨VLe.refl _, hv1, by rw [hr1]; exact hsf, by rw [hr1], hK⟩ ?_
 clear hK hv1 hr1
 rintro ⟨G2, v2, rs2⟩ g w ⟨hG2, hv2, hs2, hc2, hK⟩
 simp only at hG2 hv2 hs2 hc2 hK
 refine bk <| sq <| rg <| ?_
 refine vl mv <| ?_
 refine cl Tryz.call110 rfl (implRound_c hK hv2 hs2) ?_
 rintro v3 w ⟨G3, rs3, hG3, hv3, hr3, hK⟩
 refine vl asg <| nl <| thn <| sq <| sq <| rg <| vl mv <| vl mv <| ?_
 refine cl Tryz.call72 rfl (implSameRing_c hK hv3 (hv2.mono hG3)) ?_
 rintro _ w ⟨rfl, hK⟩
 refine nl <| thn <| ?_
 refine cdB rfl (fun h1 => ?_) (fun h1 => ?_)
 ·have he := of_dec h1
  refine sq <| rg <| ?_
  refine vl mv <| vl asg <| nl <| thn <| rt <| thr <| bkr <| thr <| bkr <| p1r (a := _) rfl <| ?_
  exact ⟨G3, rs3, (hG1.trans hG2).trans hG3, hv3, by rw [← hc2, calR_same (hr3.symm.trans he), he], hK⟩
 ·have he := not_dec h1
  have hst := calR_step hs2 (fun h => he (hr3.trans h))
  refine sk <| thn <| rg <| ?_
  refine vl mv <| vl asg <| nl <| bkn <| thn <| ?_
  exact ⟨(G3, v3, rs3), ⟨rfl, trivial⟩, ⟨hG2.trans hG3, hv3, by rw [hr3]; exact rnd_safe hs2, by rw [hr3, ← hst.1]; exact hc2, hK⟩, by simp only; rw [hr3]; exact hst.2⟩

set_option maxHeartbeats 1000000 in
theorem implWorldCalm_c (hK : K e w G L) (hW : WdS G lc W wd rs) (hzl : wd.items.length ≤ 1000000) :
  Ret Tryz.prog 24 #[.agg (wc W).toArray] w (fun r w' => ∃ G' W' rs', VLe G G' ∧ r = .agg (wc W').toArray ∧ WdS G' lc W' (calF wd) rs' ∧ K e w' G' L) := by
 refine enterG1 (args := [.agg (wc W).toArray]) Tryz.func24 rfl rfl rfl rfl ?_
 refine sq <| rg <| ?_
 refine bx hK rfl rfl ?_
 intro b1 w hK
 refine al hK Ty.i30 rfl ?_
 intro b2 w hK
 refine nl <| thn <| sq <| sq <| rg <| vl (lsO hK Ty.a30 Ty.s30 1 rfl rfl rfl) <| ?_
 refine cl Tryz.call23 rfl (implWorldValid_c hK hW om) ?_
 rintro _ w ⟨rfl, hK⟩
 refine vl (ntB rfl) <| nl <| thn <| ?_
 refine cdB rfl (fun h1 => ?_) (fun h1 => ?_)
 ·have h1' := not_dec (Eq.mp (Bool.not_eq_true' _) h1)
  refine sq <| rg <| ?_
  refine vl (bd [] Ty.p30 Ty.i30 rfl trivial rfl) <| ?_
  refine soS hK Ty.i30 0 rfl rfl rfl rfl rfl rfl ?_
  intro w hK
  refine nl <| thn <| rt <| thr <| pg1r (rvS hK Ty.a30 Ty.s30 0 rfl rfl rfl) <| ?_
  rw [calF_no h1']
  exact ⟨G, ⟨0, .slice none 0 0, .slice none 0 0, .slice none 0 0, 0, .slice none 0 0, .slice none 0 0⟩, [], VLe.refl _, rfl, WdS.zero, hK.drop1.drop1⟩
 ·have hd := of_dec (Eq.mp (Bool.not_eq_false' _) h1)
  have hsf : RgSafe (rgl rs) := by rw [hW.rg]; exact hd.2.1
  have hn0 := hd.1.1
  have hn1 := hd.1.2
  have hnw := hW.now
  refine sk <| thn <| sq <| rg <| ?_
  refine vl (lsO hK Ty.a30 Ty.s30 1 rfl rfl rfl) <| ?_
  refine cl Tryz.call34 rfl (copyWorld_c hK hW hd.2.1.1 (by have := hd.2.2.1.1; omega) (by have := hd.wda.zl; omega) (by have := hd.2.2.2.2.1.2.1.len; omega) (by have := hd.2.2.2.2.2.1.len; omega)) ?_
  rintro _ w ⟨G1, W1, q1, AI, AS, hG1, rfl, hW1, hK⟩
  replace hK : K _ _ _ ((b2, row [.int .i64 0, .slice none 0 0, .slice none 0 0, .slice none 0 0, .int .i64 0, .slice none 0 0, .slice none 0 0] 30) :: (b1, row (wc W) 30) :: (AI ++ (AS ++ L))) := hK.reo
  refine al hK Ty.i30 rfl ?_
  intro b3 w hK
  refine soS hK Ty.i30 0 rfl rfl rfl rfl (WdO.one hW1) rfl ?_
  intro w hK
  refine nl <| thn <| sq <| rg <| vl (fa Tryz.underlying30 rfl Ty.z23 rfl) <| vl (ldO hK Ty.o23 2 rfl rfl rfl) <| ?_
  replace hK : K e w G1 ((b3, row (wc W1) 30) :: (b2, row [.int .i64 0, .slice none 0 0, .slice none 0 0, .slice none 0 0, .int .i64 0, .slice none 0 0, .slice none 0 0] 30) :: (b1, row (wc W) 30) :: (AI ++ (AS ++ L))) := hK
  refine cl Tryz.call65 rfl (implRingCalm_c hK (hW.ring.mono hG1) hsf) ?_
  rintro v2 w ⟨G2, rs2, hG2, hv2, hr2, hK⟩
  have hle2 : rs2.length = rs.length := by
   have : (rgl rs2).length = (rgl rs).length := by rw [← ids_len, ← ids_len, hr2, ids_idl]
   rw [rg_len, rg_len] at this; exact this
  have h10 := hsf.1.1
  rw [rg_len] at h10
  refine vl (fa Tryz.underlying30 rfl Ty.z23 rfl) <| ?_
  refine so hK Ty.i23 rfl 0 rfl rfl rfl hv2.sl.1.one rfl ?_
  intro w hK
  refine nl <| thn <| sq <| ?_
  replace hK : K e w G2 ((b3, row (wc ⟨W1.now, v2, W1.l, W1.i, W1.next, W1.t, W1.s⟩) 30) :: (b2, row [.int .i64 0, .slice none 0 0, .slice none 0 0, .slice none 0 0, .int .i64 0, .slice none 0 0, .slice none 0 0] 30) :: (b1, row (wc W) 30) :: (AI ++ (AS ++ L))) := hK
  refine rg <| ?_
  refine vl (fa Tryz.underlying30 rfl Ty.z3 rfl) <| vl (ldO hK Ty.o3 2 rfl rfl rfl) <| vl (ad rfl rfl) <| vl (ad rfl rfl) <| vl (mn rfl rfl) <| vl (fa Tryz.underlying30 rfl Ty.z3 rfl) <| ?_
  refine so hK Ty.i3 rfl 0 rfl rfl rfl rfl rfl ?_
  intro w hK
  refine nl <| thn <| sq <| ?_
  replace hK : K e w G2 ((b3, row (wc ⟨min (W.now + 20 + 1) 999, v2, W1.l, W1.i, W1.next, W1.t, W1.s⟩) 30) :: (b2, row [.int .i64 0, .slice none 0 0, .slice none 0 0, .slice none 0 0, .int .i64 0, .slice none 0 0, .slice none 0 0] 30) :: (b1, row (wc W) 30) :: (AI ++ (AS ++ L))) := hK
  refine rg <| ?_
  refine vl (fa Tryz.underlying30 rfl Ty.z23 rfl) <| vl (ldO hK Ty.o23 0 rfl rfl rfl) <| vl (fa Tryz.underlying30 rfl Ty.z3 rfl) <| vl (ldO hK Ty.o3 0 rfl rfl rfl) <| ?_
  refine cl Tryz.call66 rfl (leasesFor_c hK hv2 om om om) ?_
  rintro l w ⟨A, ho, hK⟩
  rw [show rs2.length = ((ids wd.ring).map fun i => ((i, i, min (min (W.now + 20 + 1) 999 + 20) 999) : Ls)).length by rw [List.length_map, ids_len, ← hW.rg, rg_len]; exact hle2] at ho
  rw [hr2, ids_idl, hW.rg] at ho
  obtain ⟨G3, hG3, hl, hK⟩ := K.pubE (c := lc) (fun _ => rfl) hK ho
  refine vl (fa Tryz.underlying30 rfl Ty.z24 rfl) <| ?_
  refine so hK Ty.i24 rfl 0 rfl rfl rfl hl.1.one rfl ?_
  intro w hK
  refine nl <| thn <| sq <| ?_
  replace hK : K e w G3 ((b3, row (wc ⟨min (W.now + 20 + 1) 999, v2, l, W1.i, W1.next, W1.t, W1.s⟩) 30) :: (b2, row [.int .i64 0, .slice none 0 0, .slice none 0 0, .slice none 0 0, .int .i64 0, .slice none 0 0, .slice none 0 0] 30) :: (b1, row (wc W) 30) :: (AI ++ (AS ++ L))) := hK
  have e1 : min (W.now + 20 + 1) 999 = calN wd.now := by unfold calN; rw [hnw]; congr 1; omega
  have hW3 : WdO G3 lc 54 3 ⟨min (W.now + 20 + 1) 999, v2, l, W1.i, W1.next, W1.t, W1.s⟩ (calW wd) rs2 AI AS :=
   ⟨e1, hv2.mono hG3, by rw [hr2, hW.rg]; rfl, by rw [e1] at hl; exact hl, hW1.items, hW1.next, hW1.told.mono (hG2.trans hG3), hW1.since⟩
  refine rg <| ?_
  refine vl (lsO hK Ty.a30 Ty.s30 0 rfl rfl rfl) <| ?_
  refine soS hK Ty.i30 1 rfl rfl rfl rfl (WdO.one hW3) rfl ?_
  intro w hK
  refine nl <| thn <| rt <| pg1r (rvS hK Ty.a30 Ty.s30 1 rfl rfl rfl) <| ?_
  have hK2 : K e w G3 ([(b3, row (wc ⟨min (W.now + 20 + 1) 999, v2, l, W1.i, W1.next, W1.t, W1.s⟩) 30), (b2, row (wc ⟨min (W.now + 20 + 1) 999, v2, l, W1.i, W1.next, W1.t, W1.s⟩) 30), (b1, row (wc W) 30)] ++ (AI ++ (AS ++ L))) := hK
  obtain ⟨G4, hG4, hW4, hK4⟩ := hW3.pub hK2.dropL
  exact ⟨G4, _, rs2, ((hG1.trans hG2).trans hG3).trans hG4, rfl, by rw [calF_yes hd]; exact hW4, hK4⟩
end
end Go.Proofs.YthblmldlkipidaaGreatDoor
