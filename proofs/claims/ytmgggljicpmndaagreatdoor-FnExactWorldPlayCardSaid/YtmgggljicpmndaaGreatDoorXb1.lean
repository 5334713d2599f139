/- The program's events of the ring: in new memory. Conditions: those that each row states. -/
import Derived.Test.YtmgggljicpmndaaGreatDoorSe
import Derived.Test.YtmgggljicpmndaaGreatDoorXr4
import Derived.Test.YtmgggljicpmndaaGreatDoorType
namespace Go.Proofs.YtmgggljicpmndaaGreatDoor
open Go Go.Ro Tryz
section
variable {e w : World} {G G0 : View} {L A AI AS : Own} {v u m0 m1 : Value} {rs qs : List Rn} {zs : List It} {W W' : Wv} {wd wd' : Wd} {a b c k kd id other key : Int} {i gk o : Nat}
set_option maxHeartbeats 2000000 in
theorem ringEventF_c (hG0 : VLe G0 G) (h : WdP G0 G 98 101 lc 104 3 W wd rs AI AS) (hK : K e w G ((gk, row (m0 :: m1 :: wc W) 69) :: (AI ++ (AS ++ L)))) :
  Ret prog 127 #[.pointer (some ⟨gk, 2, none⟩), .agg (ec kd a b c).toArray] w (fun r w' => r = .tuple #[] ∧ ∃ G' W' rs', VLe G G' ∧ WdP G0 G' 98 101 lc 104 3 W' (rgW wd kd a b) rs' AI AS ∧ K e w' G' ((gk, row (m0 :: m1 :: wc W') 69) :: (AI ++ (AS ++ L)))) := by
 have e2 := h.rg
 refine enter0 (args := [.pointer (some ⟨gk, 2, none⟩), .agg (ec kd a b c).toArray]) func127 rfl rfl rfl rfl ?_
 refine sq <| rg <| ?_
 refine bx hK rfl rfl ?_
 intro b3 w hK
 refine nl <| thn <| sq <| rg <| vl (fa underlying55 rfl Ty.z3 rfl) <| vl (ldO hK Ty.o3 0 rfl rfl rfl) <| nl <| thn <| bk <| sq <| rg <| vl (eq rfl rfl) <| vl (aB rfl) <| nl <| thn <| ?_
 refine cdP rfl (fun c1 => ?_) fun c1 => ?_
 ·skip
  refine rgs (fun w => K e w G ((b3, row (ec kd a b c) 55) :: L)) (fun w => K _ w _ _) [U,U,U,U,U,U,U,U,U,U,U,U,U] 13 Ty.mixed rfl rfl (hK.drawn _) ?_
  intro w hK
  have hS : (fun w => K e w G ((b3, row (ec kd a b c) 55) :: L)) w := K.sl hK
  refine xt (i := 0) rfl kr rfl rfl (fun w hK => mv) hS <| xt (i := 1) rfl kr rfl rfl (fun w hK => mv) hS <| xt (i := 2) rfl kr rfl rfl (fun w hK => (nc rfl)) hS <| xt (i := 3) rfl kr rfl rfl (fun w hK => (fa underlying31 rfl Ty.z25 rfl)) hS <| xt (i := 5) rfl kr rfl rfl (fun w hK => (fa underlying55 rfl Ty.z3 rfl)) hS <| xt (i := 6) rfl kr rfl rfl (fun w hK => (ldO hK Ty.o3 0 rfl rfl rfl)) hS <| xt (i := 7) rfl kr rfl rfl (fun w hK => (fa underlying55 rfl Ty.z3 rfl)) hS <| xt (i := 8) rfl kr rfl rfl (fun w hK => (ldO hK Ty.o3 0 rfl rfl rfl)) hS <| ?_
  refine xe (i := 4) kr rfl rfl ?_
  refine vl (ldO hK Ty.o25 1 rfl rfl rfl) <| ?_
  refine xnk (K.sl hK) fun hS => ?_
  refine xe (i := 9) kr rfl rfl ?_
  refine cl call169 rfl (implRingJoinF_c hK h.ring) ?_
  rintro _ w ⟨G1, hG1, hR, hK⟩
  obtain ⟨v1, q1, rfl, hq1, hr1, hn1⟩ := hR
  refine xnk ((K.vle (K.sl hK) hG1)) fun hS => ?_
  refine xt (i := 10) rfl kr rfl rfl (fun w hK => (ext rfl rfl)) hS <| xt (i := 11) rfl kr rfl rfl (fun w hK => (ext rfl rfl)) hS <| ?_
  refine xe (i := 12) kr rfl rfl ?_
  refine cl call168 rfl (setRing_c hK.swp hq1.sl.1.one) ?_
  rintro _ w ⟨rfl, hK⟩
  replace hK := hK.swp
  refine xnk ((K.vle (K.sl hK) hG1)) fun hS => ?_
  refine xd kr <| bkn <| p0n <| ?_
  have ho : rgO wd.ring kd a b = tk (rgl rs) (Pt a ∧ Pt b) (joinR (rgl rs) a b) := by unfold rgO;  rw [if_pos (by omega), ← e2]
  exact ⟨rfl, G1, _, _, hG1, wdP_setR h hG0 hG1 hq1 hr1 hn1 ho, hK.drop1⟩
 ·refine sq <| rg <| ?_
  refine vl (eq rfl rfl) <| vl (aB rfl) <| nl <| thn <| ?_
  refine cdP rfl (fun c2 => ?_) fun c2 => ?_
  ·skip
   refine rgs (fun w => K e w G ((b3, row (ec kd a b c) 55) :: L)) (fun w => K _ w _ _) [U,U,U,U,U,U,U,U,U,U,U] 11 Ty.mixed rfl rfl (hK.drawn _) ?_
   intro w hK
   have hS : (fun w => K e w G ((b3, row (ec kd a b c) 55) :: L)) w := K.sl hK
   refine xt (i := 0) rfl kr rfl rfl (fun w hK => mv) hS <| xt (i := 1) rfl kr rfl rfl (fun w hK => mv) hS <| xt (i := 2) rfl kr rfl rfl (fun w hK => (nc rfl)) hS <| xt (i := 3) rfl kr rfl rfl (fun w hK => (fa underlying31 rfl Ty.z25 rfl)) hS <| xt (i := 5) rfl kr rfl rfl (fun w hK => (fa underlying55 rfl Ty.z3 rfl)) hS <| xt (i := 6) rfl kr rfl rfl (fun w hK => (ldO hK Ty.o3 0 rfl rfl rfl)) hS <| ?_
   refine xe (i := 4) kr rfl rfl ?_
   refine vl (ldO hK Ty.o25 1 rfl rfl rfl) <| ?_
   refine xnk (K.sl hK) fun hS => ?_
   refine xe (i := 7) kr rfl rfl ?_
   refine cl call170 rfl (implRingFailF_c hK h.ring) ?_
   rintro _ w ⟨G1, hG1, hR, hK⟩
   obtain ⟨v1, q1, rfl, hq1, hr1, hn1⟩ := hR
   refine xnk ((K.vle (K.sl hK) hG1)) fun hS => ?_
   refine xt (i := 8) rfl kr rfl rfl (fun w hK => (ext rfl rfl)) hS <| xt (i := 9) rfl kr rfl rfl (fun w hK => (ext rfl rfl)) hS <| ?_
   refine xe (i := 10) kr rfl rfl ?_
   refine cl call168 rfl (setRing_c hK.swp hq1.sl.1.one) ?_
   rintro _ w ⟨rfl, hK⟩
   replace hK := hK.swp
   refine xnk ((K.vle (K.sl hK) hG1)) fun hS => ?_
   refine xd kr <| bkn <| p0n <| ?_
   have ho : rgO wd.ring kd a b = tk (rgl rs) (Pt a) (failR (rgl rs) a) := by unfold rgO; rw [if_neg (by omega)]; rw [if_pos (by omega), ← e2]
   exact ⟨rfl, G1, _, _, hG1, wdP_setR h hG0 hG1 hq1 hr1 hn1 ho, hK.drop1⟩
  ·refine sq <| rg <| ?_
   refine vl (eq rfl rfl) <| vl (aB rfl) <| nl <| thn <| ?_
   refine cdP rfl (fun c3 => ?_) fun c3 => ?_
   ·skip
    refine rgs (fun w => K e w G ((b3, row (ec kd a b c) 55) :: L)) (fun w => K _ w _ _) [U,U,U,U,U,U,U,U,U,U,U] 11 Ty.mixed rfl rfl (hK.drawn _) ?_
    intro w hK
    have hS : (fun w => K e w G ((b3, row (ec kd a b c) 55) :: L)) w := K.sl hK
    refine xt (i := 0) rfl kr rfl rfl (fun w hK => mv) hS <| xt (i := 1) rfl kr rfl rfl (fun w hK => mv) hS <| xt (i := 2) rfl kr rfl rfl (fun w hK => (nc rfl)) hS <| xt (i := 3) rfl kr rfl rfl (fun w hK => (fa underlying31 rfl Ty.z25 rfl)) hS <| xt (i := 5) rfl kr rfl rfl (fun w hK => (fa underlying55 rfl Ty.z3 rfl)) hS <| xt (i := 6) rfl kr rfl rfl (fun w hK => (ldO hK Ty.o3 0 rfl rfl rfl)) hS <| ?_
    refine xe (i := 4) kr rfl rfl ?_
    refine vl (ldO hK Ty.o25 1 rfl rfl rfl) <| ?_
    refine xnk (K.sl hK) fun hS => ?_
    refine xe (i := 7) kr rfl rfl ?_
    refine cl call171 rfl (implRingDropF_c hK h.ring) ?_
    rintro _ w ⟨G1, hG1, hR, hK⟩
    obtain ⟨v1, q1, rfl, hq1, hr1, hn1⟩ := hR
    refine xnk ((K.vle (K.sl hK) hG1)) fun hS => ?_
    refine xt (i := 8) rfl kr rfl rfl (fun w hK => (ext rfl rfl)) hS <| xt (i := 9) rfl kr rfl rfl (fun w hK => (ext rfl rfl)) hS <| ?_
    refine xe (i := 10) kr rfl rfl ?_
    refine cl call168 rfl (setRing_c hK.swp hq1.sl.1.one) ?_
    rintro _ w ⟨rfl, hK⟩
    replace hK := hK.swp
    refine xnk ((K.vle (K.sl hK) hG1)) fun hS => ?_
    refine xd kr <| bkn <| p0n <| ?_
    have ho : rgO wd.ring kd a b = tk (rgl rs) (Pt a) (dropR (rgl rs) a) := by unfold rgO; rw [if_neg (by omega)]; rw [if_neg (by omega)]; rw [if_pos (by omega), ← e2]
    exact ⟨rfl, G1, _, _, hG1, wdP_setR h hG0 hG1 hq1 hr1 hn1 ho, hK.drop1⟩
   ·refine sq <| rg <| ?_
    refine vl (eq rfl rfl) <| vl (aB rfl) <| nl <| thn <| ?_
    refine cdP rfl (fun c4 => ?_) fun c4 => ?_
    ·skip
     refine rgs (fun w => K e w G ((b3, row (ec kd a b c) 55) :: L)) (fun w => K _ w _ _) [U,U,U,U,U,U,U,U,U,U,U] 11 Ty.mixed rfl rfl (hK.drawn _) ?_
     intro w hK
     have hS : (fun w => K e w G ((b3, row (ec kd a b c) 55) :: L)) w := K.sl hK
     refine xt (i := 0) rfl kr rfl rfl (fun w hK => mv) hS <| xt (i := 1) rfl kr rfl rfl (fun w hK => mv) hS <| xt (i := 2) rfl kr rfl rfl (fun w hK => (nc rfl)) hS <| xt (i := 3) rfl kr rfl rfl (fun w hK => (fa underlying31 rfl Ty.z25 rfl)) hS <| xt (i := 5) rfl kr rfl rfl (fun w hK => (fa underlying55 rfl Ty.z3 rfl)) hS <| xt (i := 6) rfl kr rfl rfl (fun w hK => (ldO hK Ty.o3 0 rfl rfl rfl)) hS <| ?_
     refine xe (i := 4) kr rfl rfl ?_
     refine vl (ldO hK Ty.o25 1 rfl rfl rfl) <| ?_
     refine xnk (K.sl hK) fun hS => ?_
     refine xe (i := 7) kr rfl rfl ?_
     refine cl call172 rfl (implRingAdoptF_c hK h.ring) ?_
     rintro _ w ⟨G1, hG1, hR, hK⟩
     obtain ⟨v1, q1, rfl, hq1, hr1, hn1⟩ := hR
     refine xnk ((K.vle (K.sl hK) hG1)) fun hS => ?_
     refine xt (i := 8) rfl kr rfl rfl (fun w hK => (ext rfl rfl)) hS <| xt (i := 9) rfl kr rfl rfl (fun w hK => (ext rfl rfl)) hS <| ?_
     refine xe (i := 10) kr rfl rfl ?_
     refine cl call168 rfl (setRing_c hK.swp hq1.sl.1.one) ?_
     rintro _ w ⟨rfl, hK⟩
     replace hK := hK.swp
     refine xnk ((K.vle (K.sl hK) hG1)) fun hS => ?_
     refine xd kr <| bkn <| p0n <| ?_
     have ho : rgO wd.ring kd a b = tk (rgl rs) (Pt a) (adoptR (rgl rs) a) := by unfold rgO; rw [if_neg (by omega)]; rw [if_neg (by omega)]; rw [if_neg (by omega)]; rw [if_pos (by omega), ← e2]
     exact ⟨rfl, G1, _, _, hG1, wdP_setR h hG0 hG1 hq1 hr1 hn1 ho, hK.drop1⟩
    ·refine sq <| rg <| ?_
     refine vl (eq rfl rfl) <| vl (aB rfl) <| nl <| thn <| ?_
     refine cdP rfl (fun c5 => ?_) fun c5 => ?_
     ·skip
      refine rgs (fun w => K e w G ((b3, row (ec kd a b c) 55) :: L)) (fun w => K _ w _ _) [U,U,U,U,U,U,U,U,U,U,U,U,U] 13 Ty.mixed rfl rfl (hK.drawn _) ?_
      intro w hK
      have hS : (fun w => K e w G ((b3, row (ec kd a b c) 55) :: L)) w := K.sl hK
      refine xt (i := 0) rfl kr rfl rfl (fun w hK => mv) hS <| xt (i := 1) rfl kr rfl rfl (fun w hK => mv) hS <| xt (i := 2) rfl kr rfl rfl (fun w hK => (nc rfl)) hS <| xt (i := 3) rfl kr rfl rfl (fun w hK => (fa underlying31 rfl Ty.z25 rfl)) hS <| xt (i := 5) rfl kr rfl rfl (fun w hK => (fa underlying55 rfl Ty.z3 rfl)) hS <| xt (i := 6) rfl kr rfl rfl (fun w hK => (ldO hK Ty.o3 0 rfl rfl rfl)) hS <| xt (i := 7) rfl kr rfl rfl (fun w hK => (fa underlying55 rfl Ty.z3 rfl)) hS <| xt (i := 8) rfl kr rfl rfl (fun w hK => (ldO hK Ty.o3 0 rfl rfl rfl)) hS <| ?_
      refine xe (i := 4) kr rfl rfl ?_
      refine vl (ldO hK Ty.o25 1 rfl rfl rfl) <| ?_
      refine xnk (K.sl hK) fun hS => ?_
      refine xe (i := 9) kr rfl rfl ?_
      refine cl call173 rfl (implRingCloserF_c hK h.ring) ?_
      rintro _ w ⟨G1, hG1, hR, hK⟩
      obtain ⟨v1, q1, rfl, hq1, hr1, hn1⟩ := hR
      refine xnk ((K.vle (K.sl hK) hG1)) fun hS => ?_
      refine xt (i := 10) rfl kr rfl rfl (fun w hK => (ext rfl rfl)) hS <| xt (i := 11) rfl kr rfl rfl (fun w hK => (ext rfl rfl)) hS <| ?_
      refine xe (i := 12) kr rfl rfl ?_
      refine cl call168 rfl (setRing_c hK.swp hq1.sl.1.one) ?_
      rintro _ w ⟨rfl, hK⟩
      replace hK := hK.swp
      refine xnk ((K.vle (K.sl hK) hG1)) fun hS => ?_
      refine xd kr <| bkn <| p0n <| ?_
      have ho : rgO wd.ring kd a b = tk (rgl rs) (Pt a ∧ Pt b) (closerR (rgl rs) a b) := by unfold rgO; rw [if_neg (by omega)]; rw [if_neg (by omega)]; rw [if_neg (by omega)]; rw [if_neg (by omega)]; rw [if_pos (by omega), ← e2]
      exact ⟨rfl, G1, _, _, hG1, wdP_setR h hG0 hG1 hq1 hr1 hn1 ho, hK.drop1⟩
     ·refine sq <| rg <| ?_
      refine vl (eq rfl rfl) <| vl (aB rfl) <| nl <| thn <| ?_
      refine cdP rfl (fun c6 => ?_) fun c6 => ?_
      ·skip
       refine rgs (fun w => K e w G ((b3, row (ec kd a b c) 55) :: L)) (fun w => K _ w _ _) [U,U,U,U,U,U,U,U,U,U,U,U,U] 13 Ty.mixed rfl rfl (hK.drawn _) ?_
       intro w hK
       have hS : (fun w => K e w G ((b3, row (ec kd a b c) 55) :: L)) w := K.sl hK
       refine xt (i := 0) rfl kr rfl rfl (fun w hK => mv) hS <| xt (i := 1) rfl kr rfl rfl (fun w hK => mv) hS <| xt (i := 2) rfl kr rfl rfl (fun w hK => (nc rfl)) hS <| xt (i := 3) rfl kr rfl rfl (fun w hK => (fa underlying31 rfl Ty.z25 rfl)) hS <| xt (i := 5) rfl kr rfl rfl (fun w hK => (fa underlying55 rfl Ty.z3 rfl)) hS <| xt (i := 6) rfl kr rfl rfl (fun w hK => (ldO hK Ty.o3 0 rfl rfl rfl)) hS <| xt (i := 7) rfl kr rfl rfl (fun w hK => (fa underlying55 rfl Ty.z3 rfl)) hS <| xt (i := 8) rfl kr rfl rfl (fun w hK => (ldO hK Ty.o3 0 rfl rfl rfl)) hS <| ?_
       refine xe (i := 4) kr rfl rfl ?_
       refine vl (ldO hK Ty.o25 1 rfl rfl rfl) <| ?_
       refine xnk (K.sl hK) fun hS => ?_
       refine xe (i := 9) kr rfl rfl ?_
       refine cl call174 rfl (implRingNotifyF_c hK h.ring) ?_
       rintro _ w ⟨G1, hG1, hR, hK⟩
       obtain ⟨v1, q1, rfl, hq1, hr1, hn1⟩ := hR
       refine xnk ((K.vle (K.sl hK) hG1)) fun hS => ?_
       refine xt (i := 10) rfl kr rfl rfl (fun w hK => (ext rfl rfl)) hS <| xt (i := 11) rfl kr rfl rfl (fun w hK => (ext rfl rfl)) hS <| ?_
       refine xe (i := 12) kr rfl rfl ?_
       refine cl call168 rfl (setRing_c hK.swp hq1.sl.1.one) ?_
       rintro _ w ⟨rfl, hK⟩
       replace hK := hK.swp
       refine xnk ((K.vle (K.sl hK) hG1)) fun hS => ?_
       refine xd kr <| bkn <| p0n <| ?_
       have ho : rgO wd.ring kd a b = tk (rgl rs) (Pt a ∧ Pt b) (notifyR (rgl rs) a b) := by unfold rgO; rw [if_neg (by omega)]; rw [if_neg (by omega)]; rw [if_neg (by omega)]; rw [if_neg (by omega)]; rw [if_neg (by omega)]; rw [if_pos (by omega), ← e2]
       exact ⟨rfl, G1, _, _, hG1, wdP_setR h hG0 hG1 hq1 hr1 hn1 ho, hK.drop1⟩
      ·refine sk <| bkn <| p0n <| ?_
       exact ⟨rfl, G, W, rs, VLe.refl _, by rw [rgW_no (by omega)]; exact h, hK.drop1⟩
end
end Go.Proofs.YtmgggljicpmndaaGreatDoor
