/- The program's events: in new memory. Conditions: those that each row states. -/
import Derived.Test.YtmgggljicpmndaaGreatDoorSe
import Derived.Test.YtmgggljicpmndaaGreatDoorXa1
import Derived.Test.YtmgggljicpmndaaGreatDoorXb1
namespace Go.Proofs.YtmgggljicpmndaaGreatDoor
open Go Go.Ro Tryz
section
variable {e w : World} {G G0 : View} {L A AI AS : Own} {v u m0 m1 : Value} {rs qs : List Rn} {zs : List It} {W W' : Wv} {wd wd' : Wd} {a b c k kd id other key : Int} {i gk o : Nat} {a0 a1 : Addr}
set_option maxHeartbeats 8000000 in
theorem applyF_c (hG0 : VLe G0 G) (hE : ErrS 228 0 1 G a0 a1) (h : WdP G0 G 98 101 lc 104 3 W wd rs AI AS) (hok : WdOk wd) (hK : K e w G ((gk, row (m0 :: m1 :: wc W) 69) :: (AI ++ (AS ++ L)))) :
  Ret prog 66 #[.pointer (some ⟨gk, 2, none⟩), .agg (ec kd a b c).toArray] w (fun r w' => r = .tuple #[] ∧ ∃ G' W' rs' AI' AS', VLe G G' ∧ WdP G0 G' 98 101 lc 104 3 W' (doW wd kd a b c) rs' AI' AS' ∧ K e w' G' ((gk, row (m0 :: m1 :: wc W') 69) :: (AI' ++ (AS' ++ L)))) := by
 have e1 := h.now
 have e2 := h.rg
 have hlen := hok.2.2.1.1.2
 have hil : wd.items.length ≤ 64 := hok.wda.zl
 have hsl : wd.since.length ≤ 64 := hok.2.2.2.2.2.1.len
 have htl : wd.scan.2.length ≤ 64 := hok.2.2.2.2.1.2.1.len
 have hn0 := hok.1.1
 have hn1 := hok.1.2
 have hrg : RgOk wd.ring := hok.2.1.1
 have hit : ItOk wd.items := hok.2.2.2.1
 refine enter0 (args := [.pointer (some ⟨gk, 2, none⟩), .agg (ec kd a b c).toArray]) func66 rfl rfl rfl rfl ?_
 refine sq <| rg <| ?_
 refine bx hK rfl rfl ?_
 intro b3 w hK
 refine nl <| thn <| sq <| rg <| vl (fa underlying55 rfl Ty.z3 rfl) <| vl (ldO hK Ty.o3 0 rfl rfl rfl) <| nl <| thn <| bk <| sq <| rg <| vl (eq rfl rfl) <| vl (aB rfl) <| nl <| thn <| ?_
 refine cdP rfl (fun c7 => ?_) fun c7 => ?_
 ·refine sq <| rg <| ?_
  refine vl mv <| vl (fa underlying55 rfl Ty.z3 rfl) <| vl (ldO hK Ty.o3 0 rfl rfl rfl) <| vl (fa underlying55 rfl Ty.z3 rfl) <| vl (ldO hK Ty.o3 0 rfl rfl rfl) <| ?_
  have hK1 : K e w G ((gk, row (m0 :: m1 :: wc W) 69) :: (AI ++ (AS ++ ((b3, row (ec kd a b c) 55) :: L)))) := hK.reo
  have hall := h.all hK1
  clear hK hK1
  obtain ⟨Gf, hGf, hWf, hcf, hK, hback⟩ := hall
  refine cl call117 rfl (owns_c hK hcf hWf hok.2.2.1 hrg) ?_
  rintro _ w ⟨rfl, hK⟩
  refine vl (mB rfl) <| ?_
  refine spl (t := 19) rfl (fun h1 => ?_) fun h1 => ?_
  ·have h1' := of_dec h1
   refine gy rfl <| vl mv <| gy rfl <| vl (fa underlying55 rfl Ty.z3 rfl) <| gy rfl <| vl (ldO hK Ty.o3 0 rfl rfl rfl) <| gy rfl <| ?_
   refine cl call118 rfl (live_c hK hcf hWf.ring) ?_
   rintro _ w ⟨rfl, hK⟩
   refine vl (pk rfl) <| nl <| thn <| ?_
   refine cdB rfl (fun h2 => ?_) fun h2 => ?_
   ·have h2' : c ∈ ids wd.ring := by rw [← e2]; exact of_decide_eq_true h2
    replace hK : K e w G ((gk, row (m0 :: m1 :: wc W) 69) :: (AI ++ (AS ++ ((b3, row (ec kd a b c) 55) :: L)))) := hback _ _ hK
    clear hback hcf hWf hGf
    replace hK : K _ _ _ ((b3, row (ec kd a b c) 55) :: (gk, row (m0 :: m1 :: wc W) 69) :: (AI ++ (AS ++ L))) := hK.reo
    refine rgs (fun w => K e w G ((b3, row (ec kd a b c) 55) :: L)) (fun w => K _ w _ _) [U,U,U,U,U,U,U,U,U,U,U,U,U,U,U,U,U,U,U,U] 20 Ty.mixed rfl rfl (hK.drawn _) ?_
    intro w hK
    have hS : (fun w => K e w G ((b3, row (ec kd a b c) 55) :: L)) w := K.sl hK
    refine xt (i := 0) rfl kr rfl rfl (fun w hK => mv) hS <| xt (i := 1) rfl kr rfl rfl (fun w hK => mv) hS <| xt (i := 2) rfl kr rfl rfl (fun w hK => (nc rfl)) hS <| xt (i := 3) rfl kr rfl rfl (fun w hK => (fa underlying31 rfl Ty.z26 rfl)) hS <| xt (i := 5) rfl kr rfl rfl (fun w hK => (fa underlying55 rfl Ty.z3 rfl)) hS <| xt (i := 6) rfl kr rfl rfl (fun w hK => (ldO hK Ty.o3 0 rfl rfl rfl)) hS <| xt (i := 7) rfl kr rfl rfl (fun w hK => (fa underlying55 rfl Ty.z3 rfl)) hS <| xt (i := 8) rfl kr rfl rfl (fun w hK => (ldO hK Ty.o3 0 rfl rfl rfl)) hS <| xt (i := 9) rfl kr rfl rfl (fun w hK => (fa underlying55 rfl Ty.z3 rfl)) hS <| xt (i := 10) rfl kr rfl rfl (fun w hK => (ldO hK Ty.o3 0 rfl rfl rfl)) hS <| xt (i := 11) rfl kr rfl rfl (fun w hK => mv) hS <| xt (i := 12) rfl kr rfl rfl (fun w hK => (nc rfl)) hS <| xt (i := 13) rfl kr rfl rfl (fun w hK => (fa underlying31 rfl Ty.z3 rfl)) hS <| ?_
    refine xe2 (i := 4) (j := 14) kr rfl rfl rfl rfl ?_ ?_
    ·refine vl (ldO hK Ty.o26 1 rfl rfl rfl) <| ?_
     refine xnk (K.sl hK) fun hS => ?_
     refine xe (i := 14) kr rfl rfl ?_
     refine vl (ldO hK Ty.o3 1 rfl rfl rfl) <| ?_
     refine xnk (K.sl hK) fun hS => ?_
     refine xe (i := 15) kr rfl rfl ?_
     refine cl call114 rfl (until_c (C := fun w => K _ w _ _) hK om om) ?_
     rintro _ w ⟨rfl, hK⟩
     refine xnk (K.sl hK) fun hS => ?_
     refine xe (i := 16) kr rfl rfl ?_
     refine cl call120 rfl (LeaseHandF_c hK hE h.leases om) ?_
     rintro _ w ⟨G1, hG1, hR, hK⟩
     obtain ⟨v1, rfl, hv1, hn1⟩ := hR
     refine xnk ((K.vle (K.sl hK) hG1)) fun hS => ?_
     refine xt (i := 17) rfl kr rfl rfl (fun w hK => (ext rfl rfl)) hS <| xt (i := 18) rfl kr rfl rfl (fun w hK => (ext rfl rfl)) hS <| ?_
     refine xe (i := 19) kr rfl rfl ?_
     refine cl call119 rfl (setLeases_c hK.swp hv1.1.one) ?_
     rintro _ w ⟨rfl, hK⟩
     replace hK := hK.swp
     refine xnk ((K.vle (K.sl hK) hG1)) fun hS => ?_
     refine xd kr <| bkn <| p0n <| ?_
     have ho : leO wd kd a b c = tkL wd.leases (Pt a ∧ Pt b ∧ Pt c ∧ Tm (min (W.now + 20) 999)) (handL wd.leases a b c (min (W.now + 20) 999)) := by rw [e1]; unfold leO; rw [if_neg (fun hn => hn h1'.1), if_pos c7, if_pos ⟨h2', h1'.2.1, h1'.2.2⟩]; rfl
     exact ⟨rfl, G1, _, rs, AI, AS, hG1, by rw [doW_le (by omega)]; exact wdP_setL h hG0 hG1 hv1 hn1 ho, hK.drop1⟩
    ·refine vl (ldO hK Ty.o3 1 rfl rfl rfl) <| ?_
     refine xnk (K.sl hK) fun hS => ?_
     refine xe2 (i := 4) (j := 15) kr rfl rfl rfl rfl ?_ ?_
     ·refine vl (ldO hK Ty.o26 1 rfl rfl rfl) <| ?_
      refine xnk (K.sl hK) fun hS => ?_
      refine xe (i := 15) kr rfl rfl ?_
      refine cl call114 rfl (until_c (C := fun w => K _ w _ _) hK om om) ?_
      rintro _ w ⟨rfl, hK⟩
      refine xnk (K.sl hK) fun hS => ?_
      refine xe (i := 16) kr rfl rfl ?_
      refine cl call120 rfl (LeaseHandF_c hK hE h.leases om) ?_
      rintro _ w ⟨G1, hG1, hR, hK⟩
      obtain ⟨v1, rfl, hv1, hn1⟩ := hR
      refine xnk ((K.vle (K.sl hK) hG1)) fun hS => ?_
      refine xt (i := 17) rfl kr rfl rfl (fun w hK => (ext rfl rfl)) hS <| xt (i := 18) rfl kr rfl rfl (fun w hK => (ext rfl rfl)) hS <| ?_
      refine xe (i := 19) kr rfl rfl ?_
      refine cl call119 rfl (setLeases_c hK.swp hv1.1.one) ?_
      rintro _ w ⟨rfl, hK⟩
      replace hK := hK.swp
      refine xnk ((K.vle (K.sl hK) hG1)) fun hS => ?_
      refine xd kr <| bkn <| p0n <| ?_
      have ho : leO wd kd a b c = tkL wd.leases (Pt a ∧ Pt b ∧ Pt c ∧ Tm (min (W.now + 20) 999)) (handL wd.leases a b c (min (W.now + 20) 999)) := by rw [e1]; unfold leO; rw [if_neg (fun hn => hn h1'.1), if_pos c7, if_pos ⟨h2', h1'.2.1, h1'.2.2⟩]; rfl
      exact ⟨rfl, G1, _, rs, AI, AS, hG1, by rw [doW_le (by omega)]; exact wdP_setL h hG0 hG1 hv1 hn1 ho, hK.drop1⟩
     ·refine cl call114 rfl (until_c (C := fun w => K _ w _ _) hK om om) ?_
      rintro _ w ⟨rfl, hK⟩
      refine xnk (K.sl hK) fun hS => ?_
      refine xe (i := 4) kr rfl rfl ?_
      refine vl (ldO hK Ty.o26 1 rfl rfl rfl) <| ?_
      refine xnk (K.sl hK) fun hS => ?_
      refine xe (i := 16) kr rfl rfl ?_
      refine cl call120 rfl (LeaseHandF_c hK hE h.leases om) ?_
      rintro _ w ⟨G1, hG1, hR, hK⟩
      obtain ⟨v1, rfl, hv1, hn1⟩ := hR
      refine xnk ((K.vle (K.sl hK) hG1)) fun hS => ?_
      refine xt (i := 17) rfl kr rfl rfl (fun w hK => (ext rfl rfl)) hS <| xt (i := 18) rfl kr rfl rfl (fun w hK => (ext rfl rfl)) hS <| ?_
      refine xe (i := 19) kr rfl rfl ?_
      refine cl call119 rfl (setLeases_c hK.swp hv1.1.one) ?_
      rintro _ w ⟨rfl, hK⟩
      replace hK := hK.swp
      refine xnk ((K.vle (K.sl hK) hG1)) fun hS => ?_
      refine xd kr <| bkn <| p0n <| ?_
      have ho : leO wd kd a b c = tkL wd.leases (Pt a ∧ Pt b ∧ Pt c ∧ Tm (min (W.now + 20) 999)) (handL wd.leases a b c (min (W.now + 20) 999)) := by rw [e1]; unfold leO; rw [if_neg (fun hn => hn h1'.1), if_pos c7, if_pos ⟨h2', h1'.2.1, h1'.2.2⟩]; rfl
      exact ⟨rfl, G1, _, rs, AI, AS, hG1, by rw [doW_le (by omega)]; exact wdP_setL h hG0 hG1 hv1 hn1 ho, hK.drop1⟩
   ·have h2' : c ∉ ids wd.ring := by rw [← e2]; exact of_decide_eq_false (by simpa using h2)
    refine sk <| bkn <| p0n <| ?_
    replace hK : K e w G ((gk, row (m0 :: m1 :: wc W) 69) :: (AI ++ (AS ++ ((b3, row (ec kd a b c) 55) :: L)))) := hback _ _ hK
    clear hback hcf hWf hGf
    replace hK : K _ _ _ ((b3, row (ec kd a b c) 55) :: (gk, row (m0 :: m1 :: wc W) 69) :: (AI ++ (AS ++ L))) := hK.reo
    exact ⟨rfl, G, W, rs, AI, AS, VLe.refl _, by rw [doW_le (by omega), leW_no (leO_7 c7 (fun hh => h2' hh.2.1))]; exact h, hK.drop1⟩
  ·have h1' := not_dec h1
   refine gn rfl <| gn rfl <| gn rfl <| gn rfl <| vl (pk rfl) <| nl <| thn <| ?_
   refine cdf rfl ?_
   refine sk <| bkn <| p0n <| ?_
   replace hK : K e w G ((gk, row (m0 :: m1 :: wc W) 69) :: (AI ++ (AS ++ ((b3, row (ec kd a b c) 55) :: L)))) := hback _ _ hK
   clear hback hcf hWf hGf
   replace hK : K _ _ _ ((b3, row (ec kd a b c) 55) :: (gk, row (m0 :: m1 :: wc W) 69) :: (AI ++ (AS ++ L))) := hK.reo
   exact ⟨rfl, G, W, rs, AI, AS, VLe.refl _, by rw [doW_le (by omega), leW_no (leO_7 c7 (fun hh => h1' ⟨hh.1, hh.2.2⟩))]; exact h, hK.drop1⟩
 ·refine sq <| rg <| ?_
  refine vl (eq rfl rfl) <| vl (aB rfl) <| nl <| thn <| ?_
  refine cdP rfl (fun c8 => ?_) fun c8 => ?_
  ·refine sq <| rg <| ?_
   refine vl mv <| vl (fa underlying55 rfl Ty.z3 rfl) <| vl (ldO hK Ty.o3 0 rfl rfl rfl) <| ?_
   have hK1 : K e w G ((gk, row (m0 :: m1 :: wc W) 69) :: (AI ++ (AS ++ ((b3, row (ec kd a b c) 55) :: L)))) := hK.reo
   have hall := h.all hK1
   clear hK hK1
   obtain ⟨Gf, hGf, hWf, hcf, hK, hback⟩ := hall
   refine cl call118 rfl (live_c hK hcf hWf.ring) ?_
   rintro _ w ⟨rfl, hK⟩
   refine nl <| thn <| ?_
   refine cdP rfl (fun h1 => ?_) fun h1 => ?_
   ·have h1' : a ∈ ids wd.ring := by rw [← e2]; exact h1
    replace hK : K e w G ((gk, row (m0 :: m1 :: wc W) 69) :: (AI ++ (AS ++ ((b3, row (ec kd a b c) 55) :: L)))) := hback _ _ hK
    clear hback hcf hWf hGf
    replace hK : K _ _ _ ((b3, row (ec kd a b c) 55) :: (gk, row (m0 :: m1 :: wc W) 69) :: (AI ++ (AS ++ L))) := hK.reo
    refine rgs (fun w => K e w G ((b3, row (ec kd a b c) 55) :: L)) (fun w => K _ w _ _) [U,U,U,U,U,U,U,U,U,U,U,U,U,U,U,U,U,U,U,U,U,U] 22 Ty.mixed rfl rfl (hK.drawn _) ?_
    intro w hK
    have hS : (fun w => K e w G ((b3, row (ec kd a b c) 55) :: L)) w := K.sl hK
    refine xt (i := 0) rfl kr rfl rfl (fun w hK => mv) hS <| xt (i := 1) rfl kr rfl rfl (fun w hK => mv) hS <| xt (i := 2) rfl kr rfl rfl (fun w hK => (nc rfl)) hS <| xt (i := 3) rfl kr rfl rfl (fun w hK => (fa underlying31 rfl Ty.z26 rfl)) hS <| xt (i := 5) rfl kr rfl rfl (fun w hK => (fa underlying55 rfl Ty.z3 rfl)) hS <| xt (i := 6) rfl kr rfl rfl (fun w hK => (ldO hK Ty.o3 0 rfl rfl rfl)) hS <| xt (i := 7) rfl kr rfl rfl (fun w hK => (fa underlying55 rfl Ty.z3 rfl)) hS <| xt (i := 8) rfl kr rfl rfl (fun w hK => (ldO hK Ty.o3 0 rfl rfl rfl)) hS <| xt (i := 9) rfl kr rfl rfl (fun w hK => mv) hS <| xt (i := 10) rfl kr rfl rfl (fun w hK => (nc rfl)) hS <| xt (i := 11) rfl kr rfl rfl (fun w hK => (fa underlying31 rfl Ty.z3 rfl)) hS <| xt (i := 13) rfl kr rfl rfl (fun w hK => mv) hS <| xt (i := 14) rfl kr rfl rfl (fun w hK => (nc rfl)) hS <| xt (i := 15) rfl kr rfl rfl (fun w hK => (fa underlying31 rfl Ty.z3 rfl)) hS <| ?_
    refine xe3 (i := 4) (j := 12) (m := 16) (l3 := [Y,Y,Y,Y,U,Y,Y,Y,Y,Y,Y,Y,U,Y,Y,Y,Y,U,U,U,U,U]) kr rfl rfl rfl rfl rfl rfl ?_ ?_ ?_
    ·refine vl (ldO hK Ty.o26 1 rfl rfl rfl) <| ?_
     refine xnk (K.sl hK) fun hS => ?_
     refine xe2 (i := 12) (j := 16) kr rfl rfl rfl rfl ?_ ?_
     ·refine vl (ldO hK Ty.o3 1 rfl rfl rfl) <| ?_
      refine xnk (K.sl hK) fun hS => ?_
      refine xe (i := 16) kr rfl rfl ?_
      refine vl (ldO hK Ty.o3 1 rfl rfl rfl) <| ?_
      refine xnk (K.sl hK) fun hS => ?_
      refine xe (i := 17) kr rfl rfl ?_
      refine cl call114 rfl (until_c (C := fun w => K _ w _ _) hK om om) ?_
      rintro _ w ⟨rfl, hK⟩
      refine xnk (K.sl hK) fun hS => ?_
      refine xe (i := 18) kr rfl rfl ?_
      refine cl call121 rfl (LeaseTakeF_c hK hE h.leases om) ?_
      rintro _ w ⟨G1, hG1, hR, hK⟩
      obtain ⟨v1, rfl, hv1, hn1⟩ := hR
      refine xnk ((K.vle (K.sl hK) hG1)) fun hS => ?_
      refine xt (i := 19) rfl kr rfl rfl (fun w hK => (ext rfl rfl)) hS <| xt (i := 20) rfl kr rfl rfl (fun w hK => (ext rfl rfl)) hS <| ?_
      refine xe (i := 21) kr rfl rfl ?_
      refine cl call119 rfl (setLeases_c hK.swp hv1.1.one) ?_
      rintro _ w ⟨rfl, hK⟩
      replace hK := hK.swp
      refine xnk ((K.vle (K.sl hK) hG1)) fun hS => ?_
      refine xd kr <| bkn <| p0n <| ?_
      have ho : leO wd kd a b c = tkL wd.leases (Pt b ∧ Pt a ∧ Tm W.now ∧ Tm (min (W.now + 20) 999)) (takeL wd.leases b a W.now (min (W.now + 20) 999)) := by rw [e1]; unfold leO; rw [if_neg (fun hn => hn h1'), if_neg c7, if_pos c8]; rfl
      exact ⟨rfl, G1, _, rs, AI, AS, hG1, by rw [doW_le (by omega)]; exact wdP_setL h hG0 hG1 hv1 hn1 ho, hK.drop1⟩
     ·refine vl (ldO hK Ty.o3 1 rfl rfl rfl) <| ?_
      refine xnk (K.sl hK) fun hS => ?_
      refine xe2 (i := 12) (j := 17) kr rfl rfl rfl rfl ?_ ?_
      ·refine vl (ldO hK Ty.o3 1 rfl rfl rfl) <| ?_
       refine xnk (K.sl hK) fun hS => ?_
       refine xe (i := 17) kr rfl rfl ?_
       refine cl call114 rfl (until_c (C := fun w => K _ w _ _) hK om om) ?_
       rintro _ w ⟨rfl, hK⟩
       refine xnk (K.sl hK) fun hS => ?_
       refine xe (i := 18) kr rfl rfl ?_
       refine cl call121 rfl (LeaseTakeF_c hK hE h.leases om) ?_
       rintro _ w ⟨G1, hG1, hR, hK⟩
       obtain ⟨v1, rfl, hv1, hn1⟩ := hR
       refine xnk ((K.vle (K.sl hK) hG1)) fun hS => ?_
       refine xt (i := 19) rfl kr rfl rfl (fun w hK => (ext rfl rfl)) hS <| xt (i := 20) rfl kr rfl rfl (fun w hK => (ext rfl rfl)) hS <| ?_
       refine xe (i := 21) kr rfl rfl ?_
       refine cl call119 rfl (setLeases_c hK.swp hv1.1.one) ?_
       rintro _ w ⟨rfl, hK⟩
       replace hK := hK.swp
       refine xnk ((K.vle (K.sl hK) hG1)) fun hS => ?_
       refine xd kr <| bkn <| p0n <| ?_
       have ho : leO wd kd a b c = tkL wd.leases (Pt b ∧ Pt a ∧ Tm W.now ∧ Tm (min (W.now + 20) 999)) (takeL wd.leases b a W.now (min (W.now + 20) 999)) := by rw [e1]; unfold leO; rw [if_neg (fun hn => hn h1'), if_neg c7, if_pos c8]; rfl
       exact ⟨rfl, G1, _, rs, AI, AS, hG1, by rw [doW_le (by omega)]; exact wdP_setL h hG0 hG1 hv1 hn1 ho, hK.drop1⟩
      ·refine cl call114 rfl (until_c (C := fun w => K _ w _ _) hK om om) ?_
       rintro _ w ⟨rfl, hK⟩
       refine xnk (K.sl hK) fun hS => ?_
       refine xe (i := 12) kr rfl rfl ?_
       refine vl (ldO hK Ty.o3 1 rfl rfl rfl) <| ?_
       refine xnk (K.sl hK) fun hS => ?_
       refine xe (i := 18) kr rfl rfl ?_
       refine cl call121 rfl (LeaseTakeF_c hK hE h.leases om) ?_
       rintro _ w ⟨G1, hG1, hR, hK⟩
       obtain ⟨v1, rfl, hv1, hn1⟩ := hR
       refine xnk ((K.vle (K.sl hK) hG1)) fun hS => ?_
       refine xt (i := 19) rfl kr rfl rfl (fun w hK => (ext rfl rfl)) hS <| xt (i := 20) rfl kr rfl rfl (fun w hK => (ext rfl rfl)) hS <| ?_
       refine xe (i := 21) kr rfl rfl ?_
       refine cl call119 rfl (setLeases_c hK.swp hv1.1.one) ?_
       rintro _ w ⟨rfl, hK⟩
       replace hK := hK.swp
       refine xnk ((K.vle (K.sl hK) hG1)) fun hS => ?_
       refine xd kr <| bkn <| p0n <| ?_
       have ho : leO wd kd a b c = tkL wd.leases (Pt b ∧ Pt a ∧ Tm W.now ∧ Tm (min (W.now + 20) 999)) (takeL wd.leases b a W.now (min (W.now + 20) 999)) := by rw [e1]; unfold leO; rw [if_neg (fun hn => hn h1'), if_neg c7, if_pos c8]; rfl
       exact ⟨rfl, G1, _, rs, AI, AS, hG1, by rw [doW_le (by omega)]; exact wdP_setL h hG0 hG1 hv1 hn1 ho, hK.drop1⟩
    ·refine vl (ldO hK Ty.o3 1 rfl rfl rfl) <| ?_
     refine xnk (K.sl hK) fun hS => ?_
     refine xe2 (i := 4) (j := 16) kr rfl rfl rfl rfl ?_ ?_
     ·refine vl (ldO hK Ty.o26 1 rfl rfl rfl) <| ?_
      refine xnk (K.sl hK) fun hS => ?_
      refine xe (i := 16) kr rfl rfl ?_
      refine vl (ldO hK Ty.o3 1 rfl rfl rfl) <| ?_
      refine xnk (K.sl hK) fun hS => ?_
      refine xe (i := 17) kr rfl rfl ?_
      refine cl call114 rfl (until_c (C := fun w => K _ w _ _) hK om om) ?_
      rintro _ w ⟨rfl, hK⟩
      refine xnk (K.sl hK) fun hS => ?_
      refine xe (i := 18) kr rfl rfl ?_
      refine cl call121 rfl (LeaseTakeF_c hK hE h.leases om) ?_
      rintro _ w ⟨G1, hG1, hR, hK⟩
      obtain ⟨v1, rfl, hv1, hn1⟩ := hR
      refine xnk ((K.vle (K.sl hK) hG1)) fun hS => ?_
      refine xt (i := 19) rfl kr rfl rfl (fun w hK => (ext rfl rfl)) hS <| xt (i := 20) rfl kr rfl rfl (fun w hK => (ext rfl rfl)) hS <| ?_
      refine xe (i := 21) kr rfl rfl ?_
      refine cl call119 rfl (setLeases_c hK.swp hv1.1.one) ?_
      rintro _ w ⟨rfl, hK⟩
      replace hK := hK.swp
      refine xnk ((K.vle (K.sl hK) hG1)) fun hS => ?_
      refine xd kr <| bkn <| p0n <| ?_
      have ho : leO wd kd a b c = tkL wd.leases (Pt b ∧ Pt a ∧ Tm W.now ∧ Tm (min (W.now + 20) 999)) (takeL wd.leases b a W.now (min (W.now + 20) 999)) := by rw [e1]; unfold leO; rw [if_neg (fun hn => hn h1'), if_neg c7, if_pos c8]; rfl
      exact ⟨rfl, G1, _, rs, AI, AS, hG1, by rw [doW_le (by omega)]; exact wdP_setL h hG0 hG1 hv1 hn1 ho, hK.drop1⟩
     ·refine vl (ldO hK Ty.o3 1 rfl rfl rfl) <| ?_
      refine xnk (K.sl hK) fun hS => ?_
      refine xe2 (i := 4) (j := 17) kr rfl rfl rfl rfl ?_ ?_
      ·refine vl (ldO hK Ty.o26 1 rfl rfl rfl) <| ?_
       refine xnk (K.sl hK) fun hS => ?_
       refine xe (i := 17) kr rfl rfl ?_
       refine cl call114 rfl (until_c (C := fun w => K _ w _ _) hK om om) ?_
       rintro _ w ⟨rfl, hK⟩
       refine xnk (K.sl hK) fun hS => ?_
       refine xe (i := 18) kr rfl rfl ?_
       refine cl call121 rfl (LeaseTakeF_c hK hE h.leases om) ?_
       rintro _ w ⟨G1, hG1, hR, hK⟩
       obtain ⟨v1, rfl, hv1, hn1⟩ := hR
       refine xnk ((K.vle (K.sl hK) hG1)) fun hS => ?_
       refine xt (i := 19) rfl kr rfl rfl (fun w hK => (ext rfl rfl)) hS <| xt (i := 20) rfl kr rfl rfl (fun w hK => (ext rfl rfl)) hS <| ?_
       refine xe (i := 21) kr rfl rfl ?_
       refine cl call119 rfl (setLeases_c hK.swp hv1.1.one) ?_
       rintro _ w ⟨rfl, hK⟩
       replace hK := hK.swp
       refine xnk ((K.vle (K.sl hK) hG1)) fun hS => ?_
       refine xd kr <| bkn <| p0n <| ?_
       have ho : leO wd kd a b c = tkL wd.leases (Pt b ∧ Pt a ∧ Tm W.now ∧ Tm (min (W.now + 20) 999)) (takeL wd.leases b a W.now (min (W.now + 20) 999)) := by rw [e1]; unfold leO; rw [if_neg (fun hn => hn h1'), if_neg c7, if_pos c8]; rfl
       exact ⟨rfl, G1, _, rs, AI, AS, hG1, by rw [doW_le (by omega)]; exact wdP_setL h hG0 hG1 hv1 hn1 ho, hK.drop1⟩
      ·refine cl call114 rfl (until_c (C := fun w => K _ w _ _) hK om om) ?_
       rintro _ w ⟨rfl, hK⟩
       refine xnk (K.sl hK) fun hS => ?_
       refine xe (i := 4) kr rfl rfl ?_
       refine vl (ldO hK Ty.o26 1 rfl rfl rfl) <| ?_
       refine xnk (K.sl hK) fun hS => ?_
       refine xe (i := 18) kr rfl rfl ?_
       refine cl call121 rfl (LeaseTakeF_c hK hE h.leases om) ?_
       rintro _ w ⟨G1, hG1, hR, hK⟩
       obtain ⟨v1, rfl, hv1, hn1⟩ := hR
       refine xnk ((K.vle (K.sl hK) hG1)) fun hS => ?_
       refine xt (i := 19) rfl kr rfl rfl (fun w hK => (ext rfl rfl)) hS <| xt (i := 20) rfl kr rfl rfl (fun w hK => (ext rfl rfl)) hS <| ?_
       refine xe (i := 21) kr rfl rfl ?_
       refine cl call119 rfl (setLeases_c hK.swp hv1.1.one) ?_
       rintro _ w ⟨rfl, hK⟩
       replace hK := hK.swp
       refine xnk ((K.vle (K.sl hK) hG1)) fun hS => ?_
       refine xd kr <| bkn <| p0n <| ?_
       have ho : leO wd kd a b c = tkL wd.leases (Pt b ∧ Pt a ∧ Tm W.now ∧ Tm (min (W.now + 20) 999)) (takeL wd.leases b a W.now (min (W.now + 20) 999)) := by rw [e1]; unfold leO; rw [if_neg (fun hn => hn h1'), if_neg c7, if_pos c8]; rfl
       exact ⟨rfl, G1, _, rs, AI, AS, hG1, by rw [doW_le (by omega)]; exact wdP_setL h hG0 hG1 hv1 hn1 ho, hK.drop1⟩
    ·refine vl (ldO hK Ty.o3 1 rfl rfl rfl) <| ?_
     refine xnk (K.sl hK) fun hS => ?_
     refine xe3 (i := 4) (j := 12) (m := 17) (l3 := [Y,Y,Y,Y,U,Y,Y,Y,Y,Y,Y,Y,U,Y,Y,Y,Y,Y,U,U,U,U]) kr rfl rfl rfl rfl rfl rfl ?_ ?_ ?_
     ·refine vl (ldO hK Ty.o26 1 rfl rfl rfl) <| ?_
      refine xnk (K.sl hK) fun hS => ?_
      refine xe2 (i := 12) (j := 17) kr rfl rfl rfl rfl ?_ ?_
      ·refine vl (ldO hK Ty.o3 1 rfl rfl rfl) <| ?_
       refine xnk (K.sl hK) fun hS => ?_
       refine xe (i := 17) kr rfl rfl ?_
       refine cl call114 rfl (until_c (C := fun w => K _ w _ _) hK om om) ?_
       rintro _ w ⟨rfl, hK⟩
       refine xnk (K.sl hK) fun hS => ?_
       refine xe (i := 18) kr rfl rfl ?_
       refine cl call121 rfl (LeaseTakeF_c hK hE h.leases om) ?_
       rintro _ w ⟨G1, hG1, hR, hK⟩
       obtain ⟨v1, rfl, hv1, hn1⟩ := hR
       refine xnk ((K.vle (K.sl hK) hG1)) fun hS => ?_
       refine xt (i := 19) rfl kr rfl rfl (fun w hK => (ext rfl rfl)) hS <| xt (i := 20) rfl kr rfl rfl (fun w hK => (ext rfl rfl)) hS <| ?_
       refine xe (i := 21) kr rfl rfl ?_
       refine cl call119 rfl (setLeases_c hK.swp hv1.1.one) ?_
       rintro _ w ⟨rfl, hK⟩
       replace hK := hK.swp
       refine xnk ((K.vle (K.sl hK) hG1)) fun hS => ?_
       refine xd kr <| bkn <| p0n <| ?_
       have ho : leO wd kd a b c = tkL wd.leases (Pt b ∧ Pt a ∧ Tm W.now ∧ Tm (min (W.now + 20) 999)) (takeL wd.leases b a W.now (min (W.now + 20) 999)) := by rw [e1]; unfold leO; rw [if_neg (fun hn => hn h1'), if_neg c7, if_pos c8]; rfl
       exact ⟨rfl, G1, _, rs, AI, AS, hG1, by rw [doW_le (by omega)]; exact wdP_setL h hG0 hG1 hv1 hn1 ho, hK.drop1⟩
      ·refine cl call114 rfl (until_c (C := fun w => K _ w _ _) hK om om) ?_
       rintro _ w ⟨rfl, hK⟩
       refine xnk (K.sl hK) fun hS => ?_
       refine xe (i := 12) kr rfl rfl ?_
       refine vl (ldO hK Ty.o3 1 rfl rfl rfl) <| ?_
       refine xnk (K.sl hK) fun hS => ?_
       refine xe (i := 18) kr rfl rfl ?_
       refine cl call121 rfl (LeaseTakeF_c hK hE h.leases om) ?_
       rintro _ w ⟨G1, hG1, hR, hK⟩
       obtain ⟨v1, rfl, hv1, hn1⟩ := hR
       refine xnk ((K.vle (K.sl hK) hG1)) fun hS => ?_
       refine xt (i := 19) rfl kr rfl rfl (fun w hK => (ext rfl rfl)) hS <| xt (i := 20) rfl kr rfl rfl (fun w hK => (ext rfl rfl)) hS <| ?_
       refine xe (i := 21) kr rfl rfl ?_
       refine cl call119 rfl (setLeases_c hK.swp hv1.1.one) ?_
       rintro _ w ⟨rfl, hK⟩
       replace hK := hK.swp
       refine xnk ((K.vle (K.sl hK) hG1)) fun hS => ?_
       refine xd kr <| bkn <| p0n <| ?_
       have ho : leO wd kd a b c = tkL wd.leases (Pt b ∧ Pt a ∧ Tm W.now ∧ Tm (min (W.now + 20) 999)) (takeL wd.leases b a W.now (min (W.now + 20) 999)) := by rw [e1]; unfold leO; rw [if_neg (fun hn => hn h1'), if_neg c7, if_pos c8]; rfl
       exact ⟨rfl, G1, _, rs, AI, AS, hG1, by rw [doW_le (by omega)]; exact wdP_setL h hG0 hG1 hv1 hn1 ho, hK.drop1⟩
     ·refine vl (ldO hK Ty.o3 1 rfl rfl rfl) <| ?_
      refine xnk (K.sl hK) fun hS => ?_
      refine xe2 (i := 4) (j := 17) kr rfl rfl rfl rfl ?_ ?_
      ·refine vl (ldO hK Ty.o26 1 rfl rfl rfl) <| ?_
       refine xnk (K.sl hK) fun hS => ?_
       refine xe (i := 17) kr rfl rfl ?_
       refine cl call114 rfl (until_c (C := fun w => K _ w _ _) hK om om) ?_
       rintro _ w ⟨rfl, hK⟩
       refine xnk (K.sl hK) fun hS => ?_
       refine xe (i := 18) kr rfl rfl ?_
       refine cl call121 rfl (LeaseTakeF_c hK hE h.leases om) ?_
       rintro _ w ⟨G1, hG1, hR, hK⟩
       obtain ⟨v1, rfl, hv1, hn1⟩ := hR
       refine xnk ((K.vle (K.sl hK) hG1)) fun hS => ?_
       refine xt (i := 19) rfl kr rfl rfl (fun w hK => (ext rfl rfl)) hS <| xt (i := 20) rfl kr rfl rfl (fun w hK => (ext rfl rfl)) hS <| ?_
       refine xe (i := 21) kr rfl rfl ?_
       refine cl call119 rfl (setLeases_c hK.swp hv1.1.one) ?_
       rintro _ w ⟨rfl, hK⟩
       replace hK := hK.swp
       refine xnk ((K.vle (K.sl hK) hG1)) fun hS => ?_
       refine xd kr <| bkn <| p0n <| ?_
       have ho : leO wd kd a b c = tkL wd.leases (Pt b ∧ Pt a ∧ Tm W.now ∧ Tm (min (W.now + 20) 999)) (takeL wd.leases b a W.now (min (W.now + 20) 999)) := by rw [e1]; unfold leO; rw [if_neg (fun hn => hn h1'), if_neg c7, if_pos c8]; rfl
       exact ⟨rfl, G1, _, rs, AI, AS, hG1, by rw [doW_le (by omega)]; exact wdP_setL h hG0 hG1 hv1 hn1 ho, hK.drop1⟩
      ·refine cl call114 rfl (until_c (C := fun w => K _ w _ _) hK om om) ?_
       rintro _ w ⟨rfl, hK⟩
       refine xnk (K.sl hK) fun hS => ?_
       refine xe (i := 4) kr rfl rfl ?_
       refine vl (ldO hK Ty.o26 1 rfl rfl rfl) <| ?_
       refine xnk (K.sl hK) fun hS => ?_
       refine xe (i := 18) kr rfl rfl ?_
       refine cl call121 rfl (LeaseTakeF_c hK hE h.leases om) ?_
       rintro _ w ⟨G1, hG1, hR, hK⟩
       obtain ⟨v1, rfl, hv1, hn1⟩ := hR
       refine xnk ((K.vle (K.sl hK) hG1)) fun hS => ?_
       refine xt (i := 19) rfl kr rfl rfl (fun w hK => (ext rfl rfl)) hS <| xt (i := 20) rfl kr rfl rfl (fun w hK => (ext rfl rfl)) hS <| ?_
       refine xe (i := 21) kr rfl rfl ?_
       refine cl call119 rfl (setLeases_c hK.swp hv1.1.one) ?_
       rintro _ w ⟨rfl, hK⟩
       replace hK := hK.swp
       refine xnk ((K.vle (K.sl hK) hG1)) fun hS => ?_
       refine xd kr <| bkn <| p0n <| ?_
       have ho : leO wd kd a b c = tkL wd.leases (Pt b ∧ Pt a ∧ Tm W.now ∧ Tm (min (W.now + 20) 999)) (takeL wd.leases b a W.now (min (W.now + 20) 999)) := by rw [e1]; unfold leO; rw [if_neg (fun hn => hn h1'), if_neg c7, if_pos c8]; rfl
       exact ⟨rfl, G1, _, rs, AI, AS, hG1, by rw [doW_le (by omega)]; exact wdP_setL h hG0 hG1 hv1 hn1 ho, hK.drop1⟩
     ·refine cl call114 rfl (until_c (C := fun w => K _ w _ _) hK om om) ?_
      rintro _ w ⟨rfl, hK⟩
      refine xnk (K.sl hK) fun hS => ?_
      refine xe2 (i := 4) (j := 12) kr rfl rfl rfl rfl ?_ ?_
      ·refine vl (ldO hK Ty.o26 1 rfl rfl rfl) <| ?_
       refine xnk (K.sl hK) fun hS => ?_
       refine xe (i := 12) kr rfl rfl ?_
       refine vl (ldO hK Ty.o3 1 rfl rfl rfl) <| ?_
       refine xnk (K.sl hK) fun hS => ?_
       refine xe (i := 18) kr rfl rfl ?_
       refine cl call121 rfl (LeaseTakeF_c hK hE h.leases om) ?_
       rintro _ w ⟨G1, hG1, hR, hK⟩
       obtain ⟨v1, rfl, hv1, hn1⟩ := hR
       refine xnk ((K.vle (K.sl hK) hG1)) fun hS => ?_
       refine xt (i := 19) rfl kr rfl rfl (fun w hK => (ext rfl rfl)) hS <| xt (i := 20) rfl kr rfl rfl (fun w hK => (ext rfl rfl)) hS <| ?_
       refine xe (i := 21) kr rfl rfl ?_
       refine cl call119 rfl (setLeases_c hK.swp hv1.1.one) ?_
       rintro _ w ⟨rfl, hK⟩
       replace hK := hK.swp
       refine xnk ((K.vle (K.sl hK) hG1)) fun hS => ?_
       refine xd kr <| bkn <| p0n <| ?_
       have ho : leO wd kd a b c = tkL wd.leases (Pt b ∧ Pt a ∧ Tm W.now ∧ Tm (min (W.now + 20) 999)) (takeL wd.leases b a W.now (min (W.now + 20) 999)) := by rw [e1]; unfold leO; rw [if_neg (fun hn => hn h1'), if_neg c7, if_pos c8]; rfl
       exact ⟨rfl, G1, _, rs, AI, AS, hG1, by rw [doW_le (by omega)]; exact wdP_setL h hG0 hG1 hv1 hn1 ho, hK.drop1⟩
      ·refine vl (ldO hK Ty.o3 1 rfl rfl rfl) <| ?_
       refine xnk (K.sl hK) fun hS => ?_
       refine xe (i := 4) kr rfl rfl ?_
       refine vl (ldO hK Ty.o26 1 rfl rfl rfl) <| ?_
       refine xnk (K.sl hK) fun hS => ?_
       refine xe (i := 18) kr rfl rfl ?_
       refine cl call121 rfl (LeaseTakeF_c hK hE h.leases om) ?_
       rintro _ w ⟨G1, hG1, hR, hK⟩
       obtain ⟨v1, rfl, hv1, hn1⟩ := hR
       refine xnk ((K.vle (K.sl hK) hG1)) fun hS => ?_
       refine xt (i := 19) rfl kr rfl rfl (fun w hK => (ext rfl rfl)) hS <| xt (i := 20) rfl kr rfl rfl (fun w hK => (ext rfl rfl)) hS <| ?_
       refine xe (i := 21) kr rfl rfl ?_
       refine cl call119 rfl (setLeases_c hK.swp hv1.1.one) ?_
       rintro _ w ⟨rfl, hK⟩
       replace hK := hK.swp
       refine xnk ((K.vle (K.sl hK) hG1)) fun hS => ?_
       refine xd kr <| bkn <| p0n <| ?_
       have ho : leO wd kd a b c = tkL wd.leases (Pt b ∧ Pt a ∧ Tm W.now ∧ Tm (min (W.now + 20) 999)) (takeL wd.leases b a W.now (min (W.now + 20) 999)) := by rw [e1]; unfold leO; rw [if_neg (fun hn => hn h1'), if_neg c7, if_pos c8]; rfl
       exact ⟨rfl, G1, _, rs, AI, AS, hG1, by rw [doW_le (by omega)]; exact wdP_setL h hG0 hG1 hv1 hn1 ho, hK.drop1⟩
   ·have h1' : a ∉ ids wd.ring := by rw [← e2]; exact h1
    refine sk <| bkn <| p0n <| ?_
    replace hK : K e w G ((gk, row (m0 :: m1 :: wc W) 69) :: (AI ++ (AS ++ ((b3, row (ec kd a b c) 55) :: L)))) := hback _ _ hK
    clear hback hcf hWf hGf
    replace hK : K _ _ _ ((b3, row (ec kd a b c) 55) :: (gk, row (m0 :: m1 :: wc W) 69) :: (AI ++ (AS ++ L))) := hK.reo
    exact ⟨rfl, G, W, rs, AI, AS, VLe.refl _, by rw [doW_le (by omega), leW_no (leO_no h1')]; exact h, hK.drop1⟩
  ·refine sq <| rg <| ?_
   refine vl (eq rfl rfl) <| vl (aB rfl) <| nl <| thn <| ?_
   refine cdP rfl (fun c9 => ?_) fun c9 => ?_
   ·refine sq <| rg <| ?_
    refine vl mv <| vl (fa underlying55 rfl Ty.z3 rfl) <| vl (ldO hK Ty.o3 0 rfl rfl rfl) <| ?_
    have hK1 : K e w G ((gk, row (m0 :: m1 :: wc W) 69) :: (AI ++ (AS ++ ((b3, row (ec kd a b c) 55) :: L)))) := hK.reo
    have hall := h.all hK1
    clear hK hK1
    obtain ⟨Gf, hGf, hWf, hcf, hK, hback⟩ := hall
    refine cl call118 rfl (live_c hK hcf hWf.ring) ?_
    rintro _ w ⟨rfl, hK⟩
    refine nl <| thn <| ?_
    refine cdP rfl (fun h1 => ?_) fun h1 => ?_
    ·have h1' : a ∈ ids wd.ring := by rw [← e2]; exact h1
     have hpa : Pt a := by obtain ⟨x, hx, hxa⟩ := List.mem_map.1 h1'; rw [← hxa]; exact (hrg.2.1 x hx).1
     replace hK : K e w G ((gk, row (m0 :: m1 :: wc W) 69) :: (AI ++ (AS ++ ((b3, row (ec kd a b c) 55) :: L)))) := hback _ _ hK
     clear hback hcf hWf hGf
     replace hK : K _ _ _ ((b3, row (ec kd a b c) 55) :: (gk, row (m0 :: m1 :: wc W) 69) :: (AI ++ (AS ++ L))) := hK.reo
     refine sq <| ?_
     refine rgs (fun w => K e w G ((b3, row (ec kd a b c) 55) :: (gk, row (m0 :: m1 :: wc W) 69) :: L)) (fun w => K _ w _ _) [U,U,U,U,U,U,U,U,U,U,U,U,U,U,U,U,U,U,U,U,U] 21 Ty.mixed rfl rfl (hK.drawn _) ?_
     intro w hK
     have hS : (fun w => K e w G ((b3, row (ec kd a b c) 55) :: (gk, row (m0 :: m1 :: wc W) 69) :: L)) w := K.sl hK
     refine xt (i := 0) rfl kr rfl rfl (fun w hK => mv) hS <| xt (i := 1) rfl kr rfl rfl (fun w hK => (nc rfl)) hS <| xt (i := 2) rfl kr rfl rfl (fun w hK => (fa underlying31 rfl Ty.z26 rfl)) hS <| xt (i := 3) rfl kr rfl rfl (fun w hK => (ldO hK Ty.o26 1 rfl rfl rfl)) hS <| xt (i := 4) rfl kr rfl rfl (fun w hK => (fa underlying55 rfl Ty.z3 rfl)) hS <| xt (i := 5) rfl kr rfl rfl (fun w hK => (ldO hK Ty.o3 0 rfl rfl rfl)) hS <| xt (i := 6) rfl kr rfl rfl (fun w hK => mv) hS <| xt (i := 7) rfl kr rfl rfl (fun w hK => (nc rfl)) hS <| xt (i := 8) rfl kr rfl rfl (fun w hK => (fa underlying31 rfl Ty.z3 rfl)) hS <| xt (i := 9) rfl kr rfl rfl (fun w hK => (ldO hK Ty.o3 1 rfl rfl rfl)) hS <| xt (i := 10) rfl kr rfl rfl (fun w hK => mv) hS <| xt (i := 11) rfl kr rfl rfl (fun w hK => (nc rfl)) hS <| xt (i := 12) rfl kr rfl rfl (fun w hK => (fa underlying31 rfl Ty.z3 rfl)) hS <| xt (i := 13) rfl kr rfl rfl (fun w hK => (ldO hK Ty.o3 1 rfl rfl rfl)) hS <| ?_
     refine xe (i := 14) kr rfl rfl ?_
     refine cl call114 rfl (until_c (C := fun w => K _ w _ _) hK om om) ?_
     rintro _ w ⟨rfl, hK⟩
     refine xnk (K.sl hK) fun hS => ?_
     refine xe (i := 15) kr rfl rfl ?_
     refine cl call122 rfl (LeaseRenewF_c hK h.leases) ?_
     rintro _ w ⟨G1, v1, n1, hG1, rfl, hr1, hr2, hK⟩
     obtain ⟨rfl, hv1, hn1⟩ := hr2 ⟨hok.2.2.1, hpa, by rw [e1]; exact hok.1, by rw [e1]; exact utl_tm hok.1⟩
     refine xnk ((K.vle (K.sl hK) hG1)) fun hS => ?_
     refine xt (i := 16) rfl kr rfl rfl (fun w hK => mv) hS <| xt (i := 17) rfl kr rfl rfl (fun w hK => (ext rfl rfl)) hS <| xt (i := 18) rfl kr rfl rfl (fun w hK => (ext rfl rfl)) hS <| xt (i := 19) rfl kr rfl rfl (fun w hK => asg) hS <| xt (i := 20) rfl kr rfl rfl (fun w hK => (aI rfl)) hS <| xd kr <| thn <| rg <| vl mv <| vl mv <| vl (mI rfl) <| vl (ge rfl rfl) <| ?_
     refine cl call119 rfl (setLeases_c hK.swp hv1.1.one) ?_
     rintro _ w ⟨rfl, hK⟩
     replace hK := hK.swp
     refine nl <| bkn <| p0n <| ?_
     have ho : leO wd kd a b c = (renewL wd.leases a W.now (min (W.now + 20) 999), true) := by rw [e1]; unfold leO; rw [if_neg (fun hn => hn h1'), if_neg c7, if_neg c8, if_pos c9, if_pos hpa]; rfl
     have hd : decide ((renewN wd.leases a W.now (min (W.now + 20) 999) : Int) ≥ 0) = true := decide_eq_true (by omega)
     rw [hd] at hK
     exact ⟨rfl, G1, _, rs, AI, AS, hG1, by rw [doW_le (by omega)]; exact wdP_setL h hG0 hG1 hv1 hn1 ho, hK.drop1⟩
    ·have h1' : a ∉ ids wd.ring := by rw [← e2]; exact h1
     refine sk <| bkn <| p0n <| ?_
     replace hK : K e w G ((gk, row (m0 :: m1 :: wc W) 69) :: (AI ++ (AS ++ ((b3, row (ec kd a b c) 55) :: L)))) := hback _ _ hK
     clear hback hcf hWf hGf
     replace hK : K _ _ _ ((b3, row (ec kd a b c) 55) :: (gk, row (m0 :: m1 :: wc W) 69) :: (AI ++ (AS ++ L))) := hK.reo
     exact ⟨rfl, G, W, rs, AI, AS, VLe.refl _, by rw [doW_le (by omega), leW_no (leO_no h1')]; exact h, hK.drop1⟩
   ·refine sq <| rg <| ?_
    refine vl (eq rfl rfl) <| vl (aB rfl) <| nl <| thn <| ?_
    refine cdP rfl (fun c10 => ?_) fun c10 => ?_
    ·refine rg <| ?_
     refine vl mv <| vl mv <| vl (nc rfl) <| vl (fa underlying31 rfl Ty.z3 rfl) <| vl (ldO hK Ty.o3 1 rfl rfl rfl) <| vl (ad rfl rfl) <| vl (mn rfl rfl) <| vl (nc rfl) <| vl (fa underlying31 rfl Ty.z3 rfl) <| ?_
     refine so hK Ty.i3 rfl 1 rfl rfl rfl rfl rfl ?_
     intro w hK
     refine nl <| bkn <| p0n <| ?_
     exact ⟨rfl, G, ⟨min (W.now + 1) 999, W.r, W.l, W.i, W.next, W.t, W.s⟩, rs, AI, AS, VLe.refl _, by
      unfold doW
      rw [if_neg (by omega), if_pos c10]
      exact ⟨⟨by simp only; rw [e1], h.ring, h.rg, h.leases, h.items, h.next, h.told, h.since⟩, ⟨h.nw.ring, h.nw.leases, h.nw.told, h.nw.nd⟩⟩, hK.drop1⟩
    ·refine sq <| rg <| ?_
     refine vl (eq rfl rfl) <| vl (aB rfl) <| nl <| thn <| ?_
     refine cdP rfl (fun c11 => ?_) fun c11 => ?_
     ·refine sq <| rg <| ?_
      refine vl mv <| vl (fa underlying55 rfl Ty.z3 rfl) <| vl (ldO hK Ty.o3 0 rfl rfl rfl) <| vl (fa underlying55 rfl Ty.z3 rfl) <| vl (ldO hK Ty.o3 0 rfl rfl rfl) <| ?_
      have hK1 : K e w G ((gk, row (m0 :: m1 :: wc W) 69) :: (AI ++ (AS ++ ((b3, row (ec kd a b c) 55) :: L)))) := hK.reo
      have hall := h.all hK1
      clear hK hK1
      obtain ⟨Gf, hGf, hWf, hcf, hK, hback⟩ := hall
      refine cl call117 rfl (owns_c hK hcf hWf hok.2.2.1 hrg) ?_
      rintro _ w ⟨rfl, hK⟩
      refine vl (mB rfl) <| ?_
      refine spl (t := 122) rfl (fun h1 => ?_) fun h1 => ?_
      ·have h1' := of_dec h1
       refine gy rfl <| vl (fa underlying55 rfl Ty.z3 rfl) <| gy rfl <| vl (ldO hK Ty.o3 0 rfl rfl rfl) <| gy rfl <| ?_
       refine cl call89 rfl (inRange_c (C := fun w => K _ w _ _) hK) ?_
       rintro _ w ⟨rfl, hK⟩
       refine vl (pk rfl) <| nl <| thn <| ?_
       refine cdP rfl (fun h2 => ?_) fun h2 => ?_
       ·refine rg <| ?_
        refine vl mv <| vl (fa underlying55 rfl Ty.z3 rfl) <| vl (ldO hK Ty.o3 0 rfl rfl rfl) <| vl (fa underlying55 rfl Ty.z3 rfl) <| vl (ldO hK Ty.o3 0 rfl rfl rfl) <| ?_
        replace hK : K e w G ((gk, row (m0 :: m1 :: wc W) 69) :: (AI ++ (AS ++ ((b3, row (ec kd a b c) 55) :: L)))) := hback _ _ hK
        clear hback hcf hWf hGf
        replace hK : K _ _ _ ((b3, row (ec kd a b c) 55) :: (gk, row (m0 :: m1 :: wc W) 69) :: (AI ++ (AS ++ L))) := hK.reo
        replace hK : K e w G ((gk, row (m0 :: m1 :: wc W) 69) :: (AI ++ (AS ++ ((b3, row (ec kd a b c) 55) :: L)))) := hK.reo
        refine cl call123 rfl (putF_c h hK hit om h1'.2.1) ?_
        rintro _ w ⟨rfl, W1, A1, hW1, hK⟩
        refine nl <| bkn <| p0n <| ?_
        exact ⟨rfl, G, W1, rs, A1, AS, VLe.refl _, by
         rw [doW_it (.inl c11)]
         unfold itW
         rw [if_pos ⟨h1'.2.1, h1'.2.2, ((own_iff hrg).1 h1').2.2, fun _ => h2⟩, if_neg (by omega), decide_eq_false (by omega)]
         exact hW1, outB hK⟩
       ·refine sk <| bkn <| p0n <| ?_
        replace hK : K e w G ((gk, row (m0 :: m1 :: wc W) 69) :: (AI ++ (AS ++ ((b3, row (ec kd a b c) 55) :: L)))) := hback _ _ hK
        clear hback hcf hWf hGf
        replace hK : K _ _ _ ((b3, row (ec kd a b c) 55) :: (gk, row (m0 :: m1 :: wc W) 69) :: (AI ++ (AS ++ L))) := hK.reo
        exact ⟨rfl, G, W, rs, AI, AS, VLe.refl _, by rw [doW_it (.inl c11), show itW wd kd a b c = wd from if_neg (fun hh => h2 (hh.2.2.2 c11))]; exact h, hK.drop1⟩
      ·have h1' := not_dec h1
       refine gn rfl <| gn rfl <| gn rfl <| vl (pk rfl) <| nl <| thn <| ?_
       refine cdf rfl ?_
       refine sk <| bkn <| p0n <| ?_
       replace hK : K e w G ((gk, row (m0 :: m1 :: wc W) 69) :: (AI ++ (AS ++ ((b3, row (ec kd a b c) 55) :: L)))) := hback _ _ hK
       clear hback hcf hWf hGf
       replace hK : K _ _ _ ((b3, row (ec kd a b c) 55) :: (gk, row (m0 :: m1 :: wc W) 69) :: (AI ++ (AS ++ L))) := hK.reo
       exact ⟨rfl, G, W, rs, AI, AS, VLe.refl _, by rw [doW_it (.inl c11), show itW wd kd a b c = wd from if_neg (fun hh => h1' ((own_iff hrg).2 ⟨hh.1, hh.2.1, hh.2.2.1⟩))]; exact h, hK.drop1⟩
     ·refine sq <| rg <| ?_
      refine vl (eq rfl rfl) <| vl (aB rfl) <| nl <| thn <| ?_
      refine cdP rfl (fun c12 => ?_) fun c12 => ?_
      ·refine sq <| rg <| ?_
       refine vl mv <| vl (fa underlying55 rfl Ty.z3 rfl) <| vl (ldO hK Ty.o3 0 rfl rfl rfl) <| vl (fa underlying55 rfl Ty.z3 rfl) <| vl (ldO hK Ty.o3 0 rfl rfl rfl) <| ?_
       have hK1 : K e w G ((gk, row (m0 :: m1 :: wc W) 69) :: (AI ++ (AS ++ ((b3, row (ec kd a b c) 55) :: L)))) := hK.reo
       have hall := h.all hK1
       clear hK hK1
       obtain ⟨Gf, hGf, hWf, hcf, hK, hback⟩ := hall
       refine cl call117 rfl (owns_c hK hcf hWf hok.2.2.1 hrg) ?_
       rintro _ w ⟨rfl, hK⟩
       refine nl <| thn <| ?_
       refine cdB rfl (fun h1 => ?_) fun h1 => ?_
       ·have h1' := of_dec h1
        replace hK : K e w G ((gk, row (m0 :: m1 :: wc W) 69) :: (AI ++ (AS ++ ((b3, row (ec kd a b c) 55) :: L)))) := hback _ _ hK
        clear hback hcf hWf hGf
        replace hK : K _ _ _ ((b3, row (ec kd a b c) 55) :: (gk, row (m0 :: m1 :: wc W) 69) :: (AI ++ (AS ++ L))) := hK.reo
        refine rg <| ?_
        refine vl mv <| vl (fa underlying55 rfl Ty.z3 rfl) <| vl (ldO hK Ty.o3 0 rfl rfl rfl) <| ?_
        replace hK : K e w G ((gk, row (m0 :: m1 :: wc W) 69) :: (AI ++ (AS ++ ((b3, row (ec kd a b c) 55) :: L)))) := hK.reo
        refine cl call124 rfl (eraseF_c (c := c) h hK hit om om h1'.2.1) ?_
        rintro _ w ⟨rfl, W1, A1, A2, hW1, hK⟩
        refine nl <| bkn <| p0n <| ?_
        exact ⟨rfl, G, W1, rs, A1, A2, VLe.refl _, by
         rw [doW_it (.inr c12)]
         unfold itW
         rw [if_pos ⟨h1'.2.1, h1'.2.2, ((own_iff hrg).1 h1').2.2, fun h => by omega⟩, if_pos c12, decide_eq_true c12]
         exact hW1, outB hK⟩
       ·have h1' : ¬ (a ∈ ids wd.ring ∧ Pt b ∧ own wd b = a) := not_dec (by simpa using h1)
        refine sk <| bkn <| p0n <| ?_
        replace hK : K e w G ((gk, row (m0 :: m1 :: wc W) 69) :: (AI ++ (AS ++ ((b3, row (ec kd a b c) 55) :: L)))) := hback _ _ hK
        clear hback hcf hWf hGf
        replace hK : K _ _ _ ((b3, row (ec kd a b c) 55) :: (gk, row (m0 :: m1 :: wc W) 69) :: (AI ++ (AS ++ L))) := hK.reo
        exact ⟨rfl, G, W, rs, AI, AS, VLe.refl _, by rw [doW_it (.inr c12), show itW wd kd a b c = wd from if_neg (fun hh => h1' ((own_iff hrg).2 ⟨hh.1, hh.2.1, hh.2.2.1⟩))]; exact h, hK.drop1⟩
      ·refine sq <| rg <| ?_
       refine vl (eq rfl rfl) <| vl (aB rfl) <| nl <| thn <| ?_
       refine cdP rfl (fun c13 => ?_) fun c13 => ?_
       ·skip
        refine rg <| ?_
        refine vl mv <| vl mv <| vl (bd [] Ty.p29 Ty.i29 rfl trivial rfl) <| vl mv <| vl (nc rfl) <| vl (fa underlying31 rfl Ty.z27 rfl) <| vl (ldO hK Ty.o27 1 rfl rfl rfl) <| ?_
        have hK1 : K e w G ((gk, row (m0 :: m1 :: wc W) 69) :: (AI ++ (AS ++ ((b3, row (ec kd a b c) 55) :: L)))) := hK.reo
        have hall := h.all hK1
        clear hK hK1
        obtain ⟨Gf, hGf, hWf, hcf, hK, hback⟩ := hall
        refine cl call81 rfl (keysOf_c hK hWf.items om) ?_
        rintro v154 w ⟨A2, ho2, hK⟩
        replace hK : K e w G ((gk, row (m0 :: m1 :: wc W) 69) :: (AI ++ (AS ++ (A2 ++ ((b3, row (ec kd a b c) 55) :: L))))) := hback _ _ hK
        clear hback hcf hWf hGf
        replace hK : K _ _ _ ((b3, row (ec kd a b c) 55) :: (gk, row (m0 :: m1 :: wc W) 69) :: (AI ++ (A2 ++ (AS ++ L)))) := hK.reo
        refine vl (nc rfl) <| vl (fa underlying31 rfl Ty.z29 rfl) <| ?_
        refine soS hK Ty.i29 1 rfl rfl rfl rfl (by rfl) rfl ?_
        intro w hK
        refine vl (nc rfl) <| vl (fa underlying31 rfl Ty.z22 rfl) <| ?_
        refine so hK Ty.i22 rfl 1 rfl rfl rfl ho2.one rfl ?_
        intro w hK
        refine nl <| bkn <| p0n <| ?_
        replace hK : K e w G ((b3, row (ec kd a b c) 55) :: (gk, row (m0 :: m1 :: wc ⟨W.now, W.r, W.l, W.i, 0, .slice none 0 0, v154⟩) 69) :: (AI ++ (A2 ++ (AS ++ L)))) := hK
        have hK2 : K e w G (AS ++ ((gk, row (m0 :: m1 :: wc ⟨W.now, W.r, W.l, W.i, 0, .slice none 0 0, v154⟩) 69) :: (AI ++ (A2 ++ L)))) := (hK.drop1).reo
        exact ⟨rfl, G, _, rs, AI, A2, VLe.refl _, by
         unfold doW
         rw [if_neg (by omega), if_neg (by omega), if_neg (by omega), if_pos c13]
         exact ⟨⟨h.now, h.ring, h.rg, h.leases, h.items, rfl, nil_row, .inl (by simp only; rw [← ints_flat]; exact ho2)⟩, ⟨h.nw.ring, h.nw.leases, New.nil0, h.nw.nd0 rfl⟩⟩, hK2.dropL⟩
       ·refine sq <| rg <| ?_
        refine vl (eq rfl rfl) <| vl (aB rfl) <| nl <| thn <| ?_
        refine cdP rfl (fun c14 => ?_) fun c14 => ?_
        ·refine sq <| rg <| ?_
         refine vl mv <| vl (nc rfl) <| vl (fa underlying31 rfl Ty.z29 rfl) <| vl (fa underlying29 rfl Ty.z3 rfl) <| vl (ldO hK Ty.o3 1 rfl rfl rfl) <| vl (lt rfl rfl) <| vl (mB rfl) <| ?_
         refine splP (t := 167) rfl (fun h1 => ?_) fun h1 => ?_
         ·refine gy rfl <| vl mv <| gy rfl <| vl mv <| gy rfl <| vl (nc rfl) <| gy rfl <| vl (fa underlying31 rfl Ty.z29 rfl) <| gy rfl <| vl (fa underlying29 rfl Ty.z3 rfl) <| gy rfl <| vl (ldO hK Ty.o3 1 rfl rfl rfl) <| gy rfl <| ?_
          have hK1 : K e w G ((gk, row (m0 :: m1 :: wc W) 69) :: (AI ++ (AS ++ ((b3, row (ec kd a b c) 55) :: L)))) := hK.reo
          have hall := h.all hK1
          clear hK hK1
          obtain ⟨Gf, hGf, hWf, hcf, hK, hback⟩ := hall
          refine cl call125 rfl (ownerA_c hK hcf hWf hok.2.2.1) ?_
          rintro _ w ⟨n1, rfl, g1, g2, hK⟩
          have hnx := h.next
          have hsn : 0 ≤ wd.scan.1 := hok.2.2.2.2.1.1.1
          have hown : n1 = own wd wd.scan.1 := by rw [← hnx]; exact g1 ⟨by omega, by omega⟩
          subst hown
          refine gy rfl <| vl (ge rfl rfl) <| vl (pk rfl) <| nl <| thn <| ?_
          refine cdP rfl (fun h2 => ?_) fun h2 => ?_
          ·have hsc : (W.next, wd.scan.2) = wd.scan := Prod.ext h.next rfl
           replace hK : K e w G ((gk, row (m0 :: m1 :: wc W) 69) :: (AI ++ (AS ++ ((b3, row (ec kd a b c) 55) :: L)))) := hback _ _ hK
           clear hback hcf hWf hGf
           replace hK : K _ _ _ ((b3, row (ec kd a b c) 55) :: (gk, row (m0 :: m1 :: wc W) 69) :: (AI ++ (AS ++ L))) := hK.reo
           refine rgs (fun w => K e w G ((b3, row (ec kd a b c) 55) :: L)) (fun w => K _ w _ _) [U,U,U,U,U,U,U,U,U,U,U,U,U,U,U,U,U,U] 18 Ty.mixed rfl rfl (hK.drawn _) ?_
           intro w hK
           have hS : (fun w => K e w G ((b3, row (ec kd a b c) 55) :: L)) w := K.sl hK
           refine xt (i := 0) rfl kr rfl rfl (fun w hK => mv) hS <| xt (i := 1) rfl kr rfl rfl (fun w hK => mv) hS <| xt (i := 2) rfl kr rfl rfl (fun w hK => (nc rfl)) hS <| xt (i := 3) rfl kr rfl rfl (fun w hK => (fa underlying31 rfl Ty.z26 rfl)) hS <| xt (i := 5) rfl kr rfl rfl (fun w hK => mv) hS <| xt (i := 6) rfl kr rfl rfl (fun w hK => (nc rfl)) hS <| xt (i := 7) rfl kr rfl rfl (fun w hK => (fa underlying31 rfl Ty.z27 rfl)) hS <| xt (i := 10) rfl kr rfl rfl (fun w hK => mv) hS <| xt (i := 11) rfl kr rfl rfl (fun w hK => (nc rfl)) hS <| xt (i := 12) rfl kr rfl rfl (fun w hK => (fa underlying31 rfl Ty.z29 rfl)) hS <| ?_
           refine xe3 (i := 4) (j := 8) (m := 13) (l3 := [Y,Y,Y,Y,U,Y,Y,Y,U,U,Y,Y,Y,Y,U,U,U,U]) kr rfl rfl rfl rfl rfl rfl ?_ ?_ ?_
           ·refine vl (ldO hK Ty.o26 1 rfl rfl rfl) <| ?_
            refine xnk (K.sl hK) fun hS => ?_
            refine xe2 (i := 8) (j := 13) kr rfl rfl rfl rfl ?_ ?_
            ·refine vl (ldO hK Ty.o27 1 rfl rfl rfl) <| ?_
             refine xnk (K.sl hK) fun hS => ?_
             refine xe2 (i := 9) (j := 13) kr rfl rfl rfl rfl ?_ ?_
             ·skip
              have hK1 : K e w G ((gk, row (m0 :: m1 :: wc W) 69) :: (AI ++ (AS ++ ((b3, row (ec kd a b c) 55) :: L)))) := hK.reo
              have hall := h.all hK1
              clear hK hK1
              obtain ⟨Gf, hGf, hWf, hcf, hK, hback⟩ := hall
              refine cl call81 rfl (keysOf_c hK hWf.items om) ?_
              rintro u9 w ⟨A9, ho9, hK⟩
              replace hK : K e w G ((gk, row (m0 :: m1 :: wc W) 69) :: (AI ++ (AS ++ (A9 ++ ((b3, row (ec kd a b c) 55) :: L))))) := hback _ _ hK
              clear hback hcf hWf hGf
              replace hK : K _ _ _ (A9 ++ ((b3, row (ec kd a b c) 55) :: (gk, row (m0 :: m1 :: wc W) 69) :: (AI ++ (AS ++ L)))) := hK.reo
              have hp9 := K.pubO hK ho9
              clear hK ho9
              obtain ⟨G9, hG9, hx9, hK⟩ := hp9
              have h9 := h.mono hG9
              refine xnk ((K.vle (K.sl hK) hG9)) fun hS => ?_
              refine xe (i := 13) kr rfl rfl ?_
              refine vl (lsP (u := [.int .i64 W.next, W.t]) hK Ty.a29 Ty.s29 1 rfl rfl rfl rfl) <| ?_
              refine xnk ((K.vle (K.sl hK) hG9)) fun hS => ?_
              refine xe (i := 14) kr rfl rfl ?_
              refine cl call126 rfl (scanStep_c hK h9.leases hx9 h9.told hok.2.2.1 hit.2 (by rw [hsc]; exact hok.2.2.2.2.1) h1) ?_
              rintro _ w ⟨t2, A3, rfl, ho3, hK⟩
              have hp3 := K.pubOF hK ho3 (VLe.refl _)
              clear hK ho3
              obtain ⟨G3, hG3, hx3, hxn3, hxb3, hK⟩ := hp3
              rw [hsc] at hx3 hxn3
              refine xnk ((K.vle (K.sl hK) (hG9.trans hG3))) fun hS => ?_
              refine xt (i := 15) rfl kr rfl rfl (fun w hK => (nc rfl)) hS <| xt (i := 16) rfl kr rfl rfl (fun w hK => (fa underlying31 rfl Ty.z29 rfl)) hS <| ?_
              refine xe (i := 17) kr rfl rfl ?_
              refine soS hK Ty.i29 1 rfl rfl rfl rfl (allc rfl (allc hx3.1.one rfl)) rfl ?_
              intro w hK
              refine xnk ((K.vle (K.sl hK) (hG9.trans hG3))) fun hS => ?_
              refine xd kr <| bkn <| p0n <| ?_
              replace hK : K e w G3 ((b3, row (ec kd a b c) 55) :: (gk, row (m0 :: m1 :: wc ⟨W.now, W.r, W.l, W.i, (stp wd.leases (keys wd.items) (W.next, wd.scan.2)).1, t2, W.s⟩) 69) :: (AI ++ (AS ++ L))) := hK
              rw [hsc] at hK
              exact ⟨rfl, G3, _, rs, AI, AS, hG9.trans hG3, by
               unfold doW
               rw [if_neg (by omega), if_neg (by omega), if_neg (by omega), if_neg (by omega), if_pos c14, show scW wd = { wd with scan := stp wd.leases (keys wd.items) wd.scan } from if_pos ⟨by rw [← h.next]; exact h1, h2⟩]
               exact ⟨⟨h.now, (h9.ring).mono hG3, h.rg, EF.mono h9.leases hG3, h.items, rfl, hx3, h.since⟩, h9.nw.tell (hG0.trans hG9) hG3 hxn3⟩, hK.drop1⟩
             ·refine vl (lsP (u := [.int .i64 W.next, W.t]) hK Ty.a29 Ty.s29 1 rfl rfl rfl rfl) <| ?_
              refine xnk (K.sl hK) fun hS => ?_
              refine xe (i := 9) kr rfl rfl ?_
              have hK1 : K e w G ((gk, row (m0 :: m1 :: wc W) 69) :: (AI ++ (AS ++ ((b3, row (ec kd a b c) 55) :: L)))) := hK.reo
              have hall := h.all hK1
              clear hK hK1
              obtain ⟨Gf, hGf, hWf, hcf, hK, hback⟩ := hall
              refine cl call81 rfl (keysOf_c hK hWf.items om) ?_
              rintro u9 w ⟨A9, ho9, hK⟩
              replace hK : K e w G ((gk, row (m0 :: m1 :: wc W) 69) :: (AI ++ (AS ++ (A9 ++ ((b3, row (ec kd a b c) 55) :: L))))) := hback _ _ hK
              clear hback hcf hWf hGf
              replace hK : K _ _ _ (A9 ++ ((b3, row (ec kd a b c) 55) :: (gk, row (m0 :: m1 :: wc W) 69) :: (AI ++ (AS ++ L)))) := hK.reo
              have hp9 := K.pubO hK ho9
              clear hK ho9
              obtain ⟨G9, hG9, hx9, hK⟩ := hp9
              have h9 := h.mono hG9
              refine xnk ((K.vle (K.sl hK) hG9)) fun hS => ?_
              refine xe (i := 14) kr rfl rfl ?_
              refine cl call126 rfl (scanStep_c hK h9.leases hx9 h9.told hok.2.2.1 hit.2 (by rw [hsc]; exact hok.2.2.2.2.1) h1) ?_
              rintro _ w ⟨t2, A3, rfl, ho3, hK⟩
              have hp3 := K.pubOF hK ho3 (VLe.refl _)
              clear hK ho3
              obtain ⟨G3, hG3, hx3, hxn3, hxb3, hK⟩ := hp3
              rw [hsc] at hx3 hxn3
              refine xnk ((K.vle (K.sl hK) (hG9.trans hG3))) fun hS => ?_
              refine xt (i := 15) rfl kr rfl rfl (fun w hK => (nc rfl)) hS <| xt (i := 16) rfl kr rfl rfl (fun w hK => (fa underlying31 rfl Ty.z29 rfl)) hS <| ?_
              refine xe (i := 17) kr rfl rfl ?_
              refine soS hK Ty.i29 1 rfl rfl rfl rfl (allc rfl (allc hx3.1.one rfl)) rfl ?_
              intro w hK
              refine xnk ((K.vle (K.sl hK) (hG9.trans hG3))) fun hS => ?_
              refine xd kr <| bkn <| p0n <| ?_
              replace hK : K e w G3 ((b3, row (ec kd a b c) 55) :: (gk, row (m0 :: m1 :: wc ⟨W.now, W.r, W.l, W.i, (stp wd.leases (keys wd.items) (W.next, wd.scan.2)).1, t2, W.s⟩) 69) :: (AI ++ (AS ++ L))) := hK
              rw [hsc] at hK
              exact ⟨rfl, G3, _, rs, AI, AS, hG9.trans hG3, by
               unfold doW
               rw [if_neg (by omega), if_neg (by omega), if_neg (by omega), if_neg (by omega), if_pos c14, show scW wd = { wd with scan := stp wd.leases (keys wd.items) wd.scan } from if_pos ⟨by rw [← h.next]; exact h1, h2⟩]
               exact ⟨⟨h.now, (h9.ring).mono hG3, h.rg, EF.mono h9.leases hG3, h.items, rfl, hx3, h.since⟩, h9.nw.tell (hG0.trans hG9) hG3 hxn3⟩, hK.drop1⟩
            ·refine vl (lsP (u := [.int .i64 W.next, W.t]) hK Ty.a29 Ty.s29 1 rfl rfl rfl rfl) <| ?_
             refine xnk (K.sl hK) fun hS => ?_
             refine xe (i := 8) kr rfl rfl ?_
             refine vl (ldO hK Ty.o27 1 rfl rfl rfl) <| ?_
             refine xnk (K.sl hK) fun hS => ?_
             refine xe (i := 9) kr rfl rfl ?_
             have hK1 : K e w G ((gk, row (m0 :: m1 :: wc W) 69) :: (AI ++ (AS ++ ((b3, row (ec kd a b c) 55) :: L)))) := hK.reo
             have hall := h.all hK1
             clear hK hK1
             obtain ⟨Gf, hGf, hWf, hcf, hK, hback⟩ := hall
             refine cl call81 rfl (keysOf_c hK hWf.items om) ?_
             rintro u9 w ⟨A9, ho9, hK⟩
             replace hK : K e w G ((gk, row (m0 :: m1 :: wc W) 69) :: (AI ++ (AS ++ (A9 ++ ((b3, row (ec kd a b c) 55) :: L))))) := hback _ _ hK
             clear hback hcf hWf hGf
             replace hK : K _ _ _ (A9 ++ ((b3, row (ec kd a b c) 55) :: (gk, row (m0 :: m1 :: wc W) 69) :: (AI ++ (AS ++ L)))) := hK.reo
             have hp9 := K.pubO hK ho9
             clear hK ho9
             obtain ⟨G9, hG9, hx9, hK⟩ := hp9
             have h9 := h.mono hG9
             refine xnk ((K.vle (K.sl hK) hG9)) fun hS => ?_
             refine xe (i := 14) kr rfl rfl ?_
             refine cl call126 rfl (scanStep_c hK h9.leases hx9 h9.told hok.2.2.1 hit.2 (by rw [hsc]; exact hok.2.2.2.2.1) h1) ?_
             rintro _ w ⟨t2, A3, rfl, ho3, hK⟩
             have hp3 := K.pubOF hK ho3 (VLe.refl _)
             clear hK ho3
             obtain ⟨G3, hG3, hx3, hxn3, hxb3, hK⟩ := hp3
             rw [hsc] at hx3 hxn3
             refine xnk ((K.vle (K.sl hK) (hG9.trans hG3))) fun hS => ?_
             refine xt (i := 15) rfl kr rfl rfl (fun w hK => (nc rfl)) hS <| xt (i := 16) rfl kr rfl rfl (fun w hK => (fa underlying31 rfl Ty.z29 rfl)) hS <| ?_
             refine xe (i := 17) kr rfl rfl ?_
             refine soS hK Ty.i29 1 rfl rfl rfl rfl (allc rfl (allc hx3.1.one rfl)) rfl ?_
             intro w hK
             refine xnk ((K.vle (K.sl hK) (hG9.trans hG3))) fun hS => ?_
             refine xd kr <| bkn <| p0n <| ?_
             replace hK : K e w G3 ((b3, row (ec kd a b c) 55) :: (gk, row (m0 :: m1 :: wc ⟨W.now, W.r, W.l, W.i, (stp wd.leases (keys wd.items) (W.next, wd.scan.2)).1, t2, W.s⟩) 69) :: (AI ++ (AS ++ L))) := hK
             rw [hsc] at hK
             exact ⟨rfl, G3, _, rs, AI, AS, hG9.trans hG3, by
              unfold doW
              rw [if_neg (by omega), if_neg (by omega), if_neg (by omega), if_neg (by omega), if_pos c14, show scW wd = { wd with scan := stp wd.leases (keys wd.items) wd.scan } from if_pos ⟨by rw [← h.next]; exact h1, h2⟩]
              exact ⟨⟨h.now, (h9.ring).mono hG3, h.rg, EF.mono h9.leases hG3, h.items, rfl, hx3, h.since⟩, h9.nw.tell (hG0.trans hG9) hG3 hxn3⟩, hK.drop1⟩
           ·refine vl (ldO hK Ty.o27 1 rfl rfl rfl) <| ?_
            refine xnk (K.sl hK) fun hS => ?_
            refine xe3 (i := 4) (j := 9) (m := 13) (l3 := [Y,Y,Y,Y,U,Y,Y,Y,Y,U,Y,Y,Y,Y,U,U,U,U]) kr rfl rfl rfl rfl rfl rfl ?_ ?_ ?_
            ·refine vl (ldO hK Ty.o26 1 rfl rfl rfl) <| ?_
             refine xnk (K.sl hK) fun hS => ?_
             refine xe2 (i := 9) (j := 13) kr rfl rfl rfl rfl ?_ ?_
             ·skip
              have hK1 : K e w G ((gk, row (m0 :: m1 :: wc W) 69) :: (AI ++ (AS ++ ((b3, row (ec kd a b c) 55) :: L)))) := hK.reo
              have hall := h.all hK1
              clear hK hK1
              obtain ⟨Gf, hGf, hWf, hcf, hK, hback⟩ := hall
              refine cl call81 rfl (keysOf_c hK hWf.items om) ?_
              rintro u9 w ⟨A9, ho9, hK⟩
              replace hK : K e w G ((gk, row (m0 :: m1 :: wc W) 69) :: (AI ++ (AS ++ (A9 ++ ((b3, row (ec kd a b c) 55) :: L))))) := hback _ _ hK
              clear hback hcf hWf hGf
              replace hK : K _ _ _ (A9 ++ ((b3, row (ec kd a b c) 55) :: (gk, row (m0 :: m1 :: wc W) 69) :: (AI ++ (AS ++ L)))) := hK.reo
              have hp9 := K.pubO hK ho9
              clear hK ho9
              obtain ⟨G9, hG9, hx9, hK⟩ := hp9
              have h9 := h.mono hG9
              refine xnk ((K.vle (K.sl hK) hG9)) fun hS => ?_
              refine xe (i := 13) kr rfl rfl ?_
              refine vl (lsP (u := [.int .i64 W.next, W.t]) hK Ty.a29 Ty.s29 1 rfl rfl rfl rfl) <| ?_
              refine xnk ((K.vle (K.sl hK) hG9)) fun hS => ?_
              refine xe (i := 14) kr rfl rfl ?_
              refine cl call126 rfl (scanStep_c hK h9.leases hx9 h9.told hok.2.2.1 hit.2 (by rw [hsc]; exact hok.2.2.2.2.1) h1) ?_
              rintro _ w ⟨t2, A3, rfl, ho3, hK⟩
              have hp3 := K.pubOF hK ho3 (VLe.refl _)
              clear hK ho3
              obtain ⟨G3, hG3, hx3, hxn3, hxb3, hK⟩ := hp3
              rw [hsc] at hx3 hxn3
              refine xnk ((K.vle (K.sl hK) (hG9.trans hG3))) fun hS => ?_
              refine xt (i := 15) rfl kr rfl rfl (fun w hK => (nc rfl)) hS <| xt (i := 16) rfl kr rfl rfl (fun w hK => (fa underlying31 rfl Ty.z29 rfl)) hS <| ?_
              refine xe (i := 17) kr rfl rfl ?_
              refine soS hK Ty.i29 1 rfl rfl rfl rfl (allc rfl (allc hx3.1.one rfl)) rfl ?_
              intro w hK
              refine xnk ((K.vle (K.sl hK) (hG9.trans hG3))) fun hS => ?_
              refine xd kr <| bkn <| p0n <| ?_
              replace hK : K e w G3 ((b3, row (ec kd a b c) 55) :: (gk, row (m0 :: m1 :: wc ⟨W.now, W.r, W.l, W.i, (stp wd.leases (keys wd.items) (W.next, wd.scan.2)).1, t2, W.s⟩) 69) :: (AI ++ (AS ++ L))) := hK
              rw [hsc] at hK
              exact ⟨rfl, G3, _, rs, AI, AS, hG9.trans hG3, by
               unfold doW
               rw [if_neg (by omega), if_neg (by omega), if_neg (by omega), if_neg (by omega), if_pos c14, show scW wd = { wd with scan := stp wd.leases (keys wd.items) wd.scan } from if_pos ⟨by rw [← h.next]; exact h1, h2⟩]
               exact ⟨⟨h.now, (h9.ring).mono hG3, h.rg, EF.mono h9.leases hG3, h.items, rfl, hx3, h.since⟩, h9.nw.tell (hG0.trans hG9) hG3 hxn3⟩, hK.drop1⟩
             ·refine vl (lsP (u := [.int .i64 W.next, W.t]) hK Ty.a29 Ty.s29 1 rfl rfl rfl rfl) <| ?_
              refine xnk (K.sl hK) fun hS => ?_
              refine xe (i := 9) kr rfl rfl ?_
              have hK1 : K e w G ((gk, row (m0 :: m1 :: wc W) 69) :: (AI ++ (AS ++ ((b3, row (ec kd a b c) 55) :: L)))) := hK.reo
              have hall := h.all hK1
              clear hK hK1
              obtain ⟨Gf, hGf, hWf, hcf, hK, hback⟩ := hall
              refine cl call81 rfl (keysOf_c hK hWf.items om) ?_
              rintro u9 w ⟨A9, ho9, hK⟩
              replace hK : K e w G ((gk, row (m0 :: m1 :: wc W) 69) :: (AI ++ (AS ++ (A9 ++ ((b3, row (ec kd a b c) 55) :: L))))) := hback _ _ hK
              clear hback hcf hWf hGf
              replace hK : K _ _ _ (A9 ++ ((b3, row (ec kd a b c) 55) :: (gk, row (m0 :: m1 :: wc W) 69) :: (AI ++ (AS ++ L)))) := hK.reo
              have hp9 := K.pubO hK ho9
              clear hK ho9
              obtain ⟨G9, hG9, hx9, hK⟩ := hp9
              have h9 := h.mono hG9
              refine xnk ((K.vle (K.sl hK) hG9)) fun hS => ?_
              refine xe (i := 14) kr rfl rfl ?_
              refine cl call126 rfl (scanStep_c hK h9.leases hx9 h9.told hok.2.2.1 hit.2 (by rw [hsc]; exact hok.2.2.2.2.1) h1) ?_
              rintro _ w ⟨t2, A3, rfl, ho3, hK⟩
              have hp3 := K.pubOF hK ho3 (VLe.refl _)
              clear hK ho3
              obtain ⟨G3, hG3, hx3, hxn3, hxb3, hK⟩ := hp3
              rw [hsc] at hx3 hxn3
              refine xnk ((K.vle (K.sl hK) (hG9.trans hG3))) fun hS => ?_
              refine xt (i := 15) rfl kr rfl rfl (fun w hK => (nc rfl)) hS <| xt (i := 16) rfl kr rfl rfl (fun w hK => (fa underlying31 rfl Ty.z29 rfl)) hS <| ?_
              refine xe (i := 17) kr rfl rfl ?_
              refine soS hK Ty.i29 1 rfl rfl rfl rfl (allc rfl (allc hx3.1.one rfl)) rfl ?_
              intro w hK
              refine xnk ((K.vle (K.sl hK) (hG9.trans hG3))) fun hS => ?_
              refine xd kr <| bkn <| p0n <| ?_
              replace hK : K e w G3 ((b3, row (ec kd a b c) 55) :: (gk, row (m0 :: m1 :: wc ⟨W.now, W.r, W.l, W.i, (stp wd.leases (keys wd.items) (W.next, wd.scan.2)).1, t2, W.s⟩) 69) :: (AI ++ (AS ++ L))) := hK
              rw [hsc] at hK
              exact ⟨rfl, G3, _, rs, AI, AS, hG9.trans hG3, by
               unfold doW
               rw [if_neg (by omega), if_neg (by omega), if_neg (by omega), if_neg (by omega), if_pos c14, show scW wd = { wd with scan := stp wd.leases (keys wd.items) wd.scan } from if_pos ⟨by rw [← h.next]; exact h1, h2⟩]
               exact ⟨⟨h.now, (h9.ring).mono hG3, h.rg, EF.mono h9.leases hG3, h.items, rfl, hx3, h.since⟩, h9.nw.tell (hG0.trans hG9) hG3 hxn3⟩, hK.drop1⟩
            ·skip
             have hK1 : K e w G ((gk, row (m0 :: m1 :: wc W) 69) :: (AI ++ (AS ++ ((b3, row (ec kd a b c) 55) :: L)))) := hK.reo
             have hall := h.all hK1
             clear hK hK1
             obtain ⟨Gf, hGf, hWf, hcf, hK, hback⟩ := hall
             refine cl call81 rfl (keysOf_c hK hWf.items om) ?_
             rintro u9 w ⟨A9, ho9, hK⟩
             replace hK : K e w G ((gk, row (m0 :: m1 :: wc W) 69) :: (AI ++ (AS ++ (A9 ++ ((b3, row (ec kd a b c) 55) :: L))))) := hback _ _ hK
             clear hback hcf hWf hGf
             replace hK : K _ _ _ (A9 ++ ((b3, row (ec kd a b c) 55) :: (gk, row (m0 :: m1 :: wc W) 69) :: (AI ++ (AS ++ L)))) := hK.reo
             have hp9 := K.pubO hK ho9
             clear hK ho9
             obtain ⟨G9, hG9, hx9, hK⟩ := hp9
             have h9 := h.mono hG9
             refine xnk ((K.vle (K.sl hK) hG9)) fun hS => ?_
             refine xe2 (i := 4) (j := 13) kr rfl rfl rfl rfl ?_ ?_
             ·refine vl (ldO hK Ty.o26 1 rfl rfl rfl) <| ?_
              refine xnk ((K.vle (K.sl hK) hG9)) fun hS => ?_
              refine xe (i := 13) kr rfl rfl ?_
              refine vl (lsP (u := [.int .i64 W.next, W.t]) hK Ty.a29 Ty.s29 1 rfl rfl rfl rfl) <| ?_
              refine xnk ((K.vle (K.sl hK) hG9)) fun hS => ?_
              refine xe (i := 14) kr rfl rfl ?_
              refine cl call126 rfl (scanStep_c hK h9.leases hx9 h9.told hok.2.2.1 hit.2 (by rw [hsc]; exact hok.2.2.2.2.1) h1) ?_
              rintro _ w ⟨t2, A3, rfl, ho3, hK⟩
              have hp3 := K.pubOF hK ho3 (VLe.refl _)
              clear hK ho3
              obtain ⟨G3, hG3, hx3, hxn3, hxb3, hK⟩ := hp3
              rw [hsc] at hx3 hxn3
              refine xnk ((K.vle (K.sl hK) (hG9.trans hG3))) fun hS => ?_
              refine xt (i := 15) rfl kr rfl rfl (fun w hK => (nc rfl)) hS <| xt (i := 16) rfl kr rfl rfl (fun w hK => (fa underlying31 rfl Ty.z29 rfl)) hS <| ?_
              refine xe (i := 17) kr rfl rfl ?_
              refine soS hK Ty.i29 1 rfl rfl rfl rfl (allc rfl (allc hx3.1.one rfl)) rfl ?_
              intro w hK
              refine xnk ((K.vle (K.sl hK) (hG9.trans hG3))) fun hS => ?_
              refine xd kr <| bkn <| p0n <| ?_
              replace hK : K e w G3 ((b3, row (ec kd a b c) 55) :: (gk, row (m0 :: m1 :: wc ⟨W.now, W.r, W.l, W.i, (stp wd.leases (keys wd.items) (W.next, wd.scan.2)).1, t2, W.s⟩) 69) :: (AI ++ (AS ++ L))) := hK
              rw [hsc] at hK
              exact ⟨rfl, G3, _, rs, AI, AS, hG9.trans hG3, by
               unfold doW
               rw [if_neg (by omega), if_neg (by omega), if_neg (by omega), if_neg (by omega), if_pos c14, show scW wd = { wd with scan := stp wd.leases (keys wd.items) wd.scan } from if_pos ⟨by rw [← h.next]; exact h1, h2⟩]
               exact ⟨⟨h.now, (h9.ring).mono hG3, h.rg, EF.mono h9.leases hG3, h.items, rfl, hx3, h.since⟩, h9.nw.tell (hG0.trans hG9) hG3 hxn3⟩, hK.drop1⟩
             ·refine vl (lsP (u := [.int .i64 W.next, W.t]) hK Ty.a29 Ty.s29 1 rfl rfl rfl rfl) <| ?_
              refine xnk ((K.vle (K.sl hK) hG9)) fun hS => ?_
              refine xe (i := 4) kr rfl rfl ?_
              refine vl (ldO hK Ty.o26 1 rfl rfl rfl) <| ?_
              refine xnk ((K.vle (K.sl hK) hG9)) fun hS => ?_
              refine xe (i := 14) kr rfl rfl ?_
              refine cl call126 rfl (scanStep_c hK h9.leases hx9 h9.told hok.2.2.1 hit.2 (by rw [hsc]; exact hok.2.2.2.2.1) h1) ?_
              rintro _ w ⟨t2, A3, rfl, ho3, hK⟩
              have hp3 := K.pubOF hK ho3 (VLe.refl _)
              clear hK ho3
              obtain ⟨G3, hG3, hx3, hxn3, hxb3, hK⟩ := hp3
              rw [hsc] at hx3 hxn3
              refine xnk ((K.vle (K.sl hK) (hG9.trans hG3))) fun hS => ?_
              refine xt (i := 15) rfl kr rfl rfl (fun w hK => (nc rfl)) hS <| xt (i := 16) rfl kr rfl rfl (fun w hK => (fa underlying31 rfl Ty.z29 rfl)) hS <| ?_
              refine xe (i := 17) kr rfl rfl ?_
              refine soS hK Ty.i29 1 rfl rfl rfl rfl (allc rfl (allc hx3.1.one rfl)) rfl ?_
              intro w hK
              refine xnk ((K.vle (K.sl hK) (hG9.trans hG3))) fun hS => ?_
              refine xd kr <| bkn <| p0n <| ?_
              replace hK : K e w G3 ((b3, row (ec kd a b c) 55) :: (gk, row (m0 :: m1 :: wc ⟨W.now, W.r, W.l, W.i, (stp wd.leases (keys wd.items) (W.next, wd.scan.2)).1, t2, W.s⟩) 69) :: (AI ++ (AS ++ L))) := hK
              rw [hsc] at hK
              exact ⟨rfl, G3, _, rs, AI, AS, hG9.trans hG3, by
               unfold doW
               rw [if_neg (by omega), if_neg (by omega), if_neg (by omega), if_neg (by omega), if_pos c14, show scW wd = { wd with scan := stp wd.leases (keys wd.items) wd.scan } from if_pos ⟨by rw [← h.next]; exact h1, h2⟩]
               exact ⟨⟨h.now, (h9.ring).mono hG3, h.rg, EF.mono h9.leases hG3, h.items, rfl, hx3, h.since⟩, h9.nw.tell (hG0.trans hG9) hG3 hxn3⟩, hK.drop1⟩
            ·refine vl (lsP (u := [.int .i64 W.next, W.t]) hK Ty.a29 Ty.s29 1 rfl rfl rfl rfl) <| ?_
             refine xnk (K.sl hK) fun hS => ?_
             refine xe2 (i := 4) (j := 9) kr rfl rfl rfl rfl ?_ ?_
             ·refine vl (ldO hK Ty.o26 1 rfl rfl rfl) <| ?_
              refine xnk (K.sl hK) fun hS => ?_
              refine xe (i := 9) kr rfl rfl ?_
              have hK1 : K e w G ((gk, row (m0 :: m1 :: wc W) 69) :: (AI ++ (AS ++ ((b3, row (ec kd a b c) 55) :: L)))) := hK.reo
              have hall := h.all hK1
              clear hK hK1
              obtain ⟨Gf, hGf, hWf, hcf, hK, hback⟩ := hall
              refine cl call81 rfl (keysOf_c hK hWf.items om) ?_
              rintro u9 w ⟨A9, ho9, hK⟩
              replace hK : K e w G ((gk, row (m0 :: m1 :: wc W) 69) :: (AI ++ (AS ++ (A9 ++ ((b3, row (ec kd a b c) 55) :: L))))) := hback _ _ hK
              clear hback hcf hWf hGf
              replace hK : K _ _ _ (A9 ++ ((b3, row (ec kd a b c) 55) :: (gk, row (m0 :: m1 :: wc W) 69) :: (AI ++ (AS ++ L)))) := hK.reo
              have hp9 := K.pubO hK ho9
              clear hK ho9
              obtain ⟨G9, hG9, hx9, hK⟩ := hp9
              have h9 := h.mono hG9
              refine xnk ((K.vle (K.sl hK) hG9)) fun hS => ?_
              refine xe (i := 14) kr rfl rfl ?_
              refine cl call126 rfl (scanStep_c hK h9.leases hx9 h9.told hok.2.2.1 hit.2 (by rw [hsc]; exact hok.2.2.2.2.1) h1) ?_
              rintro _ w ⟨t2, A3, rfl, ho3, hK⟩
              have hp3 := K.pubOF hK ho3 (VLe.refl _)
              clear hK ho3
              obtain ⟨G3, hG3, hx3, hxn3, hxb3, hK⟩ := hp3
              rw [hsc] at hx3 hxn3
              refine xnk ((K.vle (K.sl hK) (hG9.trans hG3))) fun hS => ?_
              refine xt (i := 15) rfl kr rfl rfl (fun w hK => (nc rfl)) hS <| xt (i := 16) rfl kr rfl rfl (fun w hK => (fa underlying31 rfl Ty.z29 rfl)) hS <| ?_
              refine xe (i := 17) kr rfl rfl ?_
              refine soS hK Ty.i29 1 rfl rfl rfl rfl (allc rfl (allc hx3.1.one rfl)) rfl ?_
              intro w hK
              refine xnk ((K.vle (K.sl hK) (hG9.trans hG3))) fun hS => ?_
              refine xd kr <| bkn <| p0n <| ?_
              replace hK : K e w G3 ((b3, row (ec kd a b c) 55) :: (gk, row (m0 :: m1 :: wc ⟨W.now, W.r, W.l, W.i, (stp wd.leases (keys wd.items) (W.next, wd.scan.2)).1, t2, W.s⟩) 69) :: (AI ++ (AS ++ L))) := hK
              rw [hsc] at hK
              exact ⟨rfl, G3, _, rs, AI, AS, hG9.trans hG3, by
               unfold doW
               rw [if_neg (by omega), if_neg (by omega), if_neg (by omega), if_neg (by omega), if_pos c14, show scW wd = { wd with scan := stp wd.leases (keys wd.items) wd.scan } from if_pos ⟨by rw [← h.next]; exact h1, h2⟩]
               exact ⟨⟨h.now, (h9.ring).mono hG3, h.rg, EF.mono h9.leases hG3, h.items, rfl, hx3, h.since⟩, h9.nw.tell (hG0.trans hG9) hG3 hxn3⟩, hK.drop1⟩
             ·skip
              have hK1 : K e w G ((gk, row (m0 :: m1 :: wc W) 69) :: (AI ++ (AS ++ ((b3, row (ec kd a b c) 55) :: L)))) := hK.reo
              have hall := h.all hK1
              clear hK hK1
              obtain ⟨Gf, hGf, hWf, hcf, hK, hback⟩ := hall
              refine cl call81 rfl (keysOf_c hK hWf.items om) ?_
              rintro u9 w ⟨A9, ho9, hK⟩
              replace hK : K e w G ((gk, row (m0 :: m1 :: wc W) 69) :: (AI ++ (AS ++ (A9 ++ ((b3, row (ec kd a b c) 55) :: L))))) := hback _ _ hK
              clear hback hcf hWf hGf
              replace hK : K _ _ _ (A9 ++ ((b3, row (ec kd a b c) 55) :: (gk, row (m0 :: m1 :: wc W) 69) :: (AI ++ (AS ++ L)))) := hK.reo
              have hp9 := K.pubO hK ho9
              clear hK ho9
              obtain ⟨G9, hG9, hx9, hK⟩ := hp9
              have h9 := h.mono hG9
              refine xnk ((K.vle (K.sl hK) hG9)) fun hS => ?_
              refine xe (i := 4) kr rfl rfl ?_
              refine vl (ldO hK Ty.o26 1 rfl rfl rfl) <| ?_
              refine xnk ((K.vle (K.sl hK) hG9)) fun hS => ?_
              refine xe (i := 14) kr rfl rfl ?_
              refine cl call126 rfl (scanStep_c hK h9.leases hx9 h9.told hok.2.2.1 hit.2 (by rw [hsc]; exact hok.2.2.2.2.1) h1) ?_
              rintro _ w ⟨t2, A3, rfl, ho3, hK⟩
              have hp3 := K.pubOF hK ho3 (VLe.refl _)
              clear hK ho3
              obtain ⟨G3, hG3, hx3, hxn3, hxb3, hK⟩ := hp3
              rw [hsc] at hx3 hxn3
              refine xnk ((K.vle (K.sl hK) (hG9.trans hG3))) fun hS => ?_
              refine xt (i := 15) rfl kr rfl rfl (fun w hK => (nc rfl)) hS <| xt (i := 16) rfl kr rfl rfl (fun w hK => (fa underlying31 rfl Ty.z29 rfl)) hS <| ?_
              refine xe (i := 17) kr rfl rfl ?_
              refine soS hK Ty.i29 1 rfl rfl rfl rfl (allc rfl (allc hx3.1.one rfl)) rfl ?_
              intro w hK
              refine xnk ((K.vle (K.sl hK) (hG9.trans hG3))) fun hS => ?_
              refine xd kr <| bkn <| p0n <| ?_
              replace hK : K e w G3 ((b3, row (ec kd a b c) 55) :: (gk, row (m0 :: m1 :: wc ⟨W.now, W.r, W.l, W.i, (stp wd.leases (keys wd.items) (W.next, wd.scan.2)).1, t2, W.s⟩) 69) :: (AI ++ (AS ++ L))) := hK
              rw [hsc] at hK
              exact ⟨rfl, G3, _, rs, AI, AS, hG9.trans hG3, by
               unfold doW
               rw [if_neg (by omega), if_neg (by omega), if_neg (by omega), if_neg (by omega), if_pos c14, show scW wd = { wd with scan := stp wd.leases (keys wd.items) wd.scan } from if_pos ⟨by rw [← h.next]; exact h1, h2⟩]
               exact ⟨⟨h.now, (h9.ring).mono hG3, h.rg, EF.mono h9.leases hG3, h.items, rfl, hx3, h.since⟩, h9.nw.tell (hG0.trans hG9) hG3 hxn3⟩, hK.drop1⟩
           ·refine vl (lsP (u := [.int .i64 W.next, W.t]) hK Ty.a29 Ty.s29 1 rfl rfl rfl rfl) <| ?_
            refine xnk (K.sl hK) fun hS => ?_
            refine xe2 (i := 4) (j := 8) kr rfl rfl rfl rfl ?_ ?_
            ·refine vl (ldO hK Ty.o26 1 rfl rfl rfl) <| ?_
             refine xnk (K.sl hK) fun hS => ?_
             refine xe (i := 8) kr rfl rfl ?_
             refine vl (ldO hK Ty.o27 1 rfl rfl rfl) <| ?_
             refine xnk (K.sl hK) fun hS => ?_
             refine xe (i := 9) kr rfl rfl ?_
             have hK1 : K e w G ((gk, row (m0 :: m1 :: wc W) 69) :: (AI ++ (AS ++ ((b3, row (ec kd a b c) 55) :: L)))) := hK.reo
             have hall := h.all hK1
             clear hK hK1
             obtain ⟨Gf, hGf, hWf, hcf, hK, hback⟩ := hall
             refine cl call81 rfl (keysOf_c hK hWf.items om) ?_
             rintro u9 w ⟨A9, ho9, hK⟩
             replace hK : K e w G ((gk, row (m0 :: m1 :: wc W) 69) :: (AI ++ (AS ++ (A9 ++ ((b3, row (ec kd a b c) 55) :: L))))) := hback _ _ hK
             clear hback hcf hWf hGf
             replace hK : K _ _ _ (A9 ++ ((b3, row (ec kd a b c) 55) :: (gk, row (m0 :: m1 :: wc W) 69) :: (AI ++ (AS ++ L)))) := hK.reo
             have hp9 := K.pubO hK ho9
             clear hK ho9
             obtain ⟨G9, hG9, hx9, hK⟩ := hp9
             have h9 := h.mono hG9
             refine xnk ((K.vle (K.sl hK) hG9)) fun hS => ?_
             refine xe (i := 14) kr rfl rfl ?_
             refine cl call126 rfl (scanStep_c hK h9.leases hx9 h9.told hok.2.2.1 hit.2 (by rw [hsc]; exact hok.2.2.2.2.1) h1) ?_
             rintro _ w ⟨t2, A3, rfl, ho3, hK⟩
             have hp3 := K.pubOF hK ho3 (VLe.refl _)
             clear hK ho3
             obtain ⟨G3, hG3, hx3, hxn3, hxb3, hK⟩ := hp3
             rw [hsc] at hx3 hxn3
             refine xnk ((K.vle (K.sl hK) (hG9.trans hG3))) fun hS => ?_
             refine xt (i := 15) rfl kr rfl rfl (fun w hK => (nc rfl)) hS <| xt (i := 16) rfl kr rfl rfl (fun w hK => (fa underlying31 rfl Ty.z29 rfl)) hS <| ?_
             refine xe (i := 17) kr rfl rfl ?_
             refine soS hK Ty.i29 1 rfl rfl rfl rfl (allc rfl (allc hx3.1.one rfl)) rfl ?_
             intro w hK
             refine xnk ((K.vle (K.sl hK) (hG9.trans hG3))) fun hS => ?_
             refine xd kr <| bkn <| p0n <| ?_
             replace hK : K e w G3 ((b3, row (ec kd a b c) 55) :: (gk, row (m0 :: m1 :: wc ⟨W.now, W.r, W.l, W.i, (stp wd.leases (keys wd.items) (W.next, wd.scan.2)).1, t2, W.s⟩) 69) :: (AI ++ (AS ++ L))) := hK
             rw [hsc] at hK
             exact ⟨rfl, G3, _, rs, AI, AS, hG9.trans hG3, by
              unfold doW
              rw [if_neg (by omega), if_neg (by omega), if_neg (by omega), if_neg (by omega), if_pos c14, show scW wd = { wd with scan := stp wd.leases (keys wd.items) wd.scan } from if_pos ⟨by rw [← h.next]; exact h1, h2⟩]
              exact ⟨⟨h.now, (h9.ring).mono hG3, h.rg, EF.mono h9.leases hG3, h.items, rfl, hx3, h.since⟩, h9.nw.tell (hG0.trans hG9) hG3 hxn3⟩, hK.drop1⟩
            ·refine vl (ldO hK Ty.o27 1 rfl rfl rfl) <| ?_
             refine xnk (K.sl hK) fun hS => ?_
             refine xe2 (i := 4) (j := 9) kr rfl rfl rfl rfl ?_ ?_
             ·refine vl (ldO hK Ty.o26 1 rfl rfl rfl) <| ?_
              refine xnk (K.sl hK) fun hS => ?_
              refine xe (i := 9) kr rfl rfl ?_
              have hK1 : K e w G ((gk, row (m0 :: m1 :: wc W) 69) :: (AI ++ (AS ++ ((b3, row (ec kd a b c) 55) :: L)))) := hK.reo
              have hall := h.all hK1
              clear hK hK1
              obtain ⟨Gf, hGf, hWf, hcf, hK, hback⟩ := hall
              refine cl call81 rfl (keysOf_c hK hWf.items om) ?_
              rintro u9 w ⟨A9, ho9, hK⟩
              replace hK : K e w G ((gk, row (m0 :: m1 :: wc W) 69) :: (AI ++ (AS ++ (A9 ++ ((b3, row (ec kd a b c) 55) :: L))))) := hback _ _ hK
              clear hback hcf hWf hGf
              replace hK : K _ _ _ (A9 ++ ((b3, row (ec kd a b c) 55) :: (gk, row (m0 :: m1 :: wc W) 69) :: (AI ++ (AS ++ L)))) := hK.reo
              have hp9 := K.pubO hK ho9
              clear hK ho9
              obtain ⟨G9, hG9, hx9, hK⟩ := hp9
              have h9 := h.mono hG9
              refine xnk ((K.vle (K.sl hK) hG9)) fun hS => ?_
              refine xe (i := 14) kr rfl rfl ?_
              refine cl call126 rfl (scanStep_c hK h9.leases hx9 h9.told hok.2.2.1 hit.2 (by rw [hsc]; exact hok.2.2.2.2.1) h1) ?_
              rintro _ w ⟨t2, A3, rfl, ho3, hK⟩
              have hp3 := K.pubOF hK ho3 (VLe.refl _)
              clear hK ho3
              obtain ⟨G3, hG3, hx3, hxn3, hxb3, hK⟩ := hp3
              rw [hsc] at hx3 hxn3
              refine xnk ((K.vle (K.sl hK) (hG9.trans hG3))) fun hS => ?_
              refine xt (i := 15) rfl kr rfl rfl (fun w hK => (nc rfl)) hS <| xt (i := 16) rfl kr rfl rfl (fun w hK => (fa underlying31 rfl Ty.z29 rfl)) hS <| ?_
              refine xe (i := 17) kr rfl rfl ?_
              refine soS hK Ty.i29 1 rfl rfl rfl rfl (allc rfl (allc hx3.1.one rfl)) rfl ?_
              intro w hK
              refine xnk ((K.vle (K.sl hK) (hG9.trans hG3))) fun hS => ?_
              refine xd kr <| bkn <| p0n <| ?_
              replace hK : K e w G3 ((b3, row (ec kd a b c) 55) :: (gk, row (m0 :: m1 :: wc ⟨W.now, W.r, W.l, W.i, (stp wd.leases (keys wd.items) (W.next, wd.scan.2)).1, t2, W.s⟩) 69) :: (AI ++ (AS ++ L))) := hK
              rw [hsc] at hK
              exact ⟨rfl, G3, _, rs, AI, AS, hG9.trans hG3, by
               unfold doW
               rw [if_neg (by omega), if_neg (by omega), if_neg (by omega), if_neg (by omega), if_pos c14, show scW wd = { wd with scan := stp wd.leases (keys wd.items) wd.scan } from if_pos ⟨by rw [← h.next]; exact h1, h2⟩]
               exact ⟨⟨h.now, (h9.ring).mono hG3, h.rg, EF.mono h9.leases hG3, h.items, rfl, hx3, h.since⟩, h9.nw.tell (hG0.trans hG9) hG3 hxn3⟩, hK.drop1⟩
             ·skip
              have hK1 : K e w G ((gk, row (m0 :: m1 :: wc W) 69) :: (AI ++ (AS ++ ((b3, row (ec kd a b c) 55) :: L)))) := hK.reo
              have hall := h.all hK1
              clear hK hK1
              obtain ⟨Gf, hGf, hWf, hcf, hK, hback⟩ := hall
              refine cl call81 rfl (keysOf_c hK hWf.items om) ?_
              rintro u9 w ⟨A9, ho9, hK⟩
              replace hK : K e w G ((gk, row (m0 :: m1 :: wc W) 69) :: (AI ++ (AS ++ (A9 ++ ((b3, row (ec kd a b c) 55) :: L))))) := hback _ _ hK
              clear hback hcf hWf hGf
              replace hK : K _ _ _ (A9 ++ ((b3, row (ec kd a b c) 55) :: (gk, row (m0 :: m1 :: wc W) 69) :: (AI ++ (AS ++ L)))) := hK.reo
              have hp9 := K.pubO hK ho9
              clear hK ho9
              obtain ⟨G9, hG9, hx9, hK⟩ := hp9
              have h9 := h.mono hG9
              refine xnk ((K.vle (K.sl hK) hG9)) fun hS => ?_
              refine xe (i := 4) kr rfl rfl ?_
              refine vl (ldO hK Ty.o26 1 rfl rfl rfl) <| ?_
              refine xnk ((K.vle (K.sl hK) hG9)) fun hS => ?_
              refine xe (i := 14) kr rfl rfl ?_
              refine cl call126 rfl (scanStep_c hK h9.leases hx9 h9.told hok.2.2.1 hit.2 (by rw [hsc]; exact hok.2.2.2.2.1) h1) ?_
              rintro _ w ⟨t2, A3, rfl, ho3, hK⟩
              have hp3 := K.pubOF hK ho3 (VLe.refl _)
              clear hK ho3
              obtain ⟨G3, hG3, hx3, hxn3, hxb3, hK⟩ := hp3
              rw [hsc] at hx3 hxn3
              refine xnk ((K.vle (K.sl hK) (hG9.trans hG3))) fun hS => ?_
              refine xt (i := 15) rfl kr rfl rfl (fun w hK => (nc rfl)) hS <| xt (i := 16) rfl kr rfl rfl (fun w hK => (fa underlying31 rfl Ty.z29 rfl)) hS <| ?_
              refine xe (i := 17) kr rfl rfl ?_
              refine soS hK Ty.i29 1 rfl rfl rfl rfl (allc rfl (allc hx3.1.one rfl)) rfl ?_
              intro w hK
              refine xnk ((K.vle (K.sl hK) (hG9.trans hG3))) fun hS => ?_
              refine xd kr <| bkn <| p0n <| ?_
              replace hK : K e w G3 ((b3, row (ec kd a b c) 55) :: (gk, row (m0 :: m1 :: wc ⟨W.now, W.r, W.l, W.i, (stp wd.leases (keys wd.items) (W.next, wd.scan.2)).1, t2, W.s⟩) 69) :: (AI ++ (AS ++ L))) := hK
              rw [hsc] at hK
              exact ⟨rfl, G3, _, rs, AI, AS, hG9.trans hG3, by
               unfold doW
               rw [if_neg (by omega), if_neg (by omega), if_neg (by omega), if_neg (by omega), if_pos c14, show scW wd = { wd with scan := stp wd.leases (keys wd.items) wd.scan } from if_pos ⟨by rw [← h.next]; exact h1, h2⟩]
               exact ⟨⟨h.now, (h9.ring).mono hG3, h.rg, EF.mono h9.leases hG3, h.items, rfl, hx3, h.since⟩, h9.nw.tell (hG0.trans hG9) hG3 hxn3⟩, hK.drop1⟩
          ·refine sk <| bkn <| p0n <| ?_
           replace hK : K e w G ((gk, row (m0 :: m1 :: wc W) 69) :: (AI ++ (AS ++ ((b3, row (ec kd a b c) 55) :: L)))) := hback _ _ hK
           clear hback hcf hWf hGf
           replace hK : K _ _ _ ((b3, row (ec kd a b c) 55) :: (gk, row (m0 :: m1 :: wc W) 69) :: (AI ++ (AS ++ L))) := hK.reo
           exact ⟨rfl, G, W, rs, AI, AS, VLe.refl _, by rw [show doW wd kd a b c = wd by unfold doW; rw [if_neg (by omega), if_neg (by omega), if_neg (by omega), if_neg (by omega), if_pos c14]; exact if_neg (fun hh => h2 hh.2)]; exact h, hK.drop1⟩
         ·refine gn rfl <| gn rfl <| gn rfl <| gn rfl <| gn rfl <| gn rfl <| gn rfl <| gn rfl <| vl (pk rfl) <| nl <| thn <| ?_
          refine cdf rfl ?_
          refine sk <| bkn <| p0n <| ?_
          exact ⟨rfl, G, W, rs, AI, AS, VLe.refl _, by rw [show doW wd kd a b c = wd by unfold doW; rw [if_neg (by omega), if_neg (by omega), if_neg (by omega), if_neg (by omega), if_pos c14]; exact if_neg (fun hh => h1 (by rw [h.next]; exact hh.1))]; exact h, hK.drop1⟩
        ·refine rg <| ?_
         refine vl mv <| vl (lsO hK Ty.a55 Ty.s55 0 rfl rfl rfl) <| ?_
         replace hK : K e w G ((gk, row (m0 :: m1 :: wc W) 69) :: (AI ++ (AS ++ ((b3, row (ec kd a b c) 55) :: L)))) := hK.reo
         refine cl call127 rfl (ringEventF_c hG0 h hK) ?_
         rintro _ w ⟨rfl, G1, W1, q1, hG1, hW1, hK⟩
         refine nl <| bkn <| p0n <| ?_
         exact ⟨rfl, G1, W1, q1, AI, AS, hG1, by
          unfold doW
          rw [if_neg (by omega), if_neg c10, if_neg (by omega), if_neg c13, if_neg c14]
          exact hW1, outB hK⟩
end
end Go.Proofs.YtmgggljicpmndaaGreatDoor
