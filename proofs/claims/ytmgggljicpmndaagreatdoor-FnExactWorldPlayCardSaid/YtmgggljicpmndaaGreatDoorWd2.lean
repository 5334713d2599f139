/- Contracts of the specification's events of a world: the ring. Conditions: those that each row states. -/
import Derived.Test.YtmgggljicpmndaaGreatDoorWd1
namespace Go.Proofs.YtmgggljicpmndaaGreatDoor
open Go Go.Ro Tryz
section
variable {e w : World} {G : View} {L A : Own} {v u : Value} {xs ys : List Int} {ls ms : List Ls} {rs qs : List Rn} {zs ts : List It} {W W' : Wv} {wd wd' : Wd} {a b c k kd id other : Int} {i j bk o : Nat}
theorem l51Ring_c (hK : K e w G L) (hW : WdS G lc W wd rs) : Ret prog 60 #[.agg (wc W).toArray, .agg (ec kd a b c).toArray] w (fun r w' => ∃ G' W' rs', VLe G G' ∧ r = .agg (wc W').toArray ∧ WdS G' lc W' (rgW wd kd a b) rs' ∧ K e w' G' L) := by
 have hr := hW.ring
 have e2 := hW.rg
 refine enterG1 (args := [.agg (wc W).toArray, .agg (ec kd a b c).toArray]) func60 rfl rfl rfl rfl ?_
 refine sq <| rg <| ?_
 refine bx hK rfl rfl ?_
 intro b2 w hK
 refine bx hK rfl rfl ?_
 intro b3 w hK
 refine al hK Ty.i31 rfl ?_
 intro b4 w hK
 refine nl <| thn <| sq <| rg <| vl (fa underlying31 rfl Ty.z25 rfl) <| vl (ldO hK Ty.o25 2 rfl rfl rfl) <| vl asg <| nl <| thn <| sq <| rg <| vl (aB rfl) <| nl <| thn <| sq <| sq <| rg <| vl (fa underlying55 rfl Ty.z3 rfl) <| vl (ldO hK Ty.o3 1 rfl rfl rfl) <| nl <| thn <| ?_
 refine ct (σ := View × Value × List Rn × Bool) (fun s => [(2, .pointer (some ⟨b2, 0, none⟩)), (4, .pointer (some ⟨b4, 0, none⟩)), (5, s.2.1), (6, .bool s.2.2.2)]) (fun s w => VLe G s.1 ∧ RngS s.1 s.2.1 s.2.2.1 ∧ s.2.2.2 = (rgO wd.ring kd a b).2 ∧ (s.2.2.2 = true → rgl s.2.2.1 = (rgO wd.ring kd a b).1) ∧ K e w s.1 ((b4, row [.int .i64 0, .slice none 0 0, .slice none 0 0, .slice none 0 0, .int .i64 0, .slice none 0 0, .slice none 0 0] 31) :: (b3, row (ec kd a b c) 55) :: (b2, row (wc W) 31) :: L)) ?_ ?_
 ·refine bk <| sq <| rg <| ?_
  refine vl (eq rfl rfl) <| vl (aB rfl) <| nl <| thn <| ?_
  refine cdP rfl (fun h1 => ?_) fun h1 => ?_
  ·have hO : rgO wd.ring kd a b = tk (rgl rs) (Pt a ∧ Pt b) (joinR (rgl rs) a b) := by rw [e2]; unfold rgO;  rw [if_pos h1]
   refine rg <| ?_
   refine vl (fa underlying31 rfl Ty.z25 rfl) <| vl (ldO hK Ty.o25 2 rfl rfl rfl) <| vl (fa underlying55 rfl Ty.z3 rfl) <| vl (ldO hK Ty.o3 1 rfl rfl rfl) <| vl (fa underlying55 rfl Ty.z3 rfl) <| vl (ldO hK Ty.o3 1 rfl rfl rfl) <| ?_
   refine cl call107 rfl (specRingJoin_c hK hr) ?_
   rintro _ w ⟨G1, hG1, ⟨v1, qs, rfl, hv1, hq1⟩, hK⟩
   refine vl mv <| vl (ext rfl rfl) <| vl (ext rfl rfl) <| vl asg <| vl (aB rfl) <| nl <| bkn <| ctn <| ?_
   exact ⟨(G1, v1, qs, _), ⟨rfl, rfl, rfl, rfl, trivial⟩, hG1, hv1, by rw [hO], fun _ => by rw [hO]; exact hq1, hK⟩
  ·refine sq <| rg <| ?_
   refine vl (eq rfl rfl) <| vl (aB rfl) <| nl <| thn <| ?_
   refine cdP rfl (fun h2 => ?_) fun h2 => ?_
   ·have hO : rgO wd.ring kd a b = tk (rgl rs) (Pt a) (failR (rgl rs) a) := by rw [e2]; unfold rgO; rw [if_neg h1]; rw [if_pos h2]
    refine rg <| ?_
    refine vl (fa underlying31 rfl Ty.z25 rfl) <| vl (ldO hK Ty.o25 2 rfl rfl rfl) <| vl (fa underlying55 rfl Ty.z3 rfl) <| vl (ldO hK Ty.o3 1 rfl rfl rfl) <| ?_
    refine cl call108 rfl (specRingFail_c hK hr) ?_
    rintro _ w ⟨G1, hG1, ⟨v1, qs, rfl, hv1, hq1⟩, hK⟩
    refine vl mv <| vl (ext rfl rfl) <| vl (ext rfl rfl) <| vl asg <| vl (aB rfl) <| nl <| bkn <| ctn <| ?_
    exact ⟨(G1, v1, qs, _), ⟨rfl, rfl, rfl, rfl, trivial⟩, hG1, hv1, by rw [hO], fun _ => by rw [hO]; exact hq1, hK⟩
   ·refine sq <| rg <| ?_
    refine vl (eq rfl rfl) <| vl (aB rfl) <| nl <| thn <| ?_
    refine cdP rfl (fun h3 => ?_) fun h3 => ?_
    ·have hO : rgO wd.ring kd a b = tk (rgl rs) (Pt a) (dropR (rgl rs) a) := by rw [e2]; unfold rgO; rw [if_neg h1]; rw [if_neg h2]; rw [if_pos h3]
     refine rg <| ?_
     refine vl (fa underlying31 rfl Ty.z25 rfl) <| vl (ldO hK Ty.o25 2 rfl rfl rfl) <| vl (fa underlying55 rfl Ty.z3 rfl) <| vl (ldO hK Ty.o3 1 rfl rfl rfl) <| ?_
     refine cl call109 rfl (specRingDrop_c hK hr) ?_
     rintro _ w ⟨G1, hG1, ⟨v1, qs, rfl, hv1, hq1⟩, hK⟩
     refine vl mv <| vl (ext rfl rfl) <| vl (ext rfl rfl) <| vl asg <| vl (aB rfl) <| nl <| bkn <| ctn <| ?_
     exact ⟨(G1, v1, qs, _), ⟨rfl, rfl, rfl, rfl, trivial⟩, hG1, hv1, by rw [hO], fun _ => by rw [hO]; exact hq1, hK⟩
    ·refine sq <| rg <| ?_
     refine vl (eq rfl rfl) <| vl (aB rfl) <| nl <| thn <| ?_
     refine cdP rfl (fun h4 => ?_) fun h4 => ?_
     ·have hO : rgO wd.ring kd a b = tk (rgl rs) (Pt a) (adoptR (rgl rs) a) := by rw [e2]; unfold rgO; rw [if_neg h1]; rw [if_neg h2]; rw [if_neg h3]; rw [if_pos h4]
      refine rg <| ?_
      refine vl (fa underlying31 rfl Ty.z25 rfl) <| vl (ldO hK Ty.o25 2 rfl rfl rfl) <| vl (fa underlying55 rfl Ty.z3 rfl) <| vl (ldO hK Ty.o3 1 rfl rfl rfl) <| ?_
      refine cl call110 rfl (specRingAdopt_c hK hr) ?_
      rintro _ w ⟨G1, hG1, ⟨v1, qs, rfl, hv1, hq1⟩, hK⟩
      refine vl mv <| vl (ext rfl rfl) <| vl (ext rfl rfl) <| vl asg <| vl (aB rfl) <| nl <| bkn <| ctn <| ?_
      exact ⟨(G1, v1, qs, _), ⟨rfl, rfl, rfl, rfl, trivial⟩, hG1, hv1, by rw [hO], fun _ => by rw [hO]; exact hq1, hK⟩
     ·refine sq <| rg <| ?_
      refine vl (eq rfl rfl) <| vl (aB rfl) <| nl <| thn <| ?_
      refine cdP rfl (fun h5 => ?_) fun h5 => ?_
      ·have hO : rgO wd.ring kd a b = tk (rgl rs) (Pt a ∧ Pt b) (closerR (rgl rs) a b) := by rw [e2]; unfold rgO; rw [if_neg h1]; rw [if_neg h2]; rw [if_neg h3]; rw [if_neg h4]; rw [if_pos h5]
       refine rg <| ?_
       refine vl (fa underlying31 rfl Ty.z25 rfl) <| vl (ldO hK Ty.o25 2 rfl rfl rfl) <| vl (fa underlying55 rfl Ty.z3 rfl) <| vl (ldO hK Ty.o3 1 rfl rfl rfl) <| vl (fa underlying55 rfl Ty.z3 rfl) <| vl (ldO hK Ty.o3 1 rfl rfl rfl) <| ?_
       refine cl call111 rfl (specRingCloser_c hK hr) ?_
       rintro _ w ⟨G1, hG1, ⟨v1, qs, rfl, hv1, hq1⟩, hK⟩
       refine vl mv <| vl (ext rfl rfl) <| vl (ext rfl rfl) <| vl asg <| vl (aB rfl) <| nl <| bkn <| ctn <| ?_
       exact ⟨(G1, v1, qs, _), ⟨rfl, rfl, rfl, rfl, trivial⟩, hG1, hv1, by rw [hO], fun _ => by rw [hO]; exact hq1, hK⟩
      ·refine sq <| rg <| ?_
       refine vl (eq rfl rfl) <| vl (aB rfl) <| nl <| thn <| ?_
       refine cdP rfl (fun h6 => ?_) fun h6 => ?_
       ·have hO : rgO wd.ring kd a b = tk (rgl rs) (Pt a ∧ Pt b) (notifyR (rgl rs) a b) := by rw [e2]; unfold rgO; rw [if_neg h1]; rw [if_neg h2]; rw [if_neg h3]; rw [if_neg h4]; rw [if_neg h5]; rw [if_pos h6]
        refine rg <| ?_
        refine vl (fa underlying31 rfl Ty.z25 rfl) <| vl (ldO hK Ty.o25 2 rfl rfl rfl) <| vl (fa underlying55 rfl Ty.z3 rfl) <| vl (ldO hK Ty.o3 1 rfl rfl rfl) <| vl (fa underlying55 rfl Ty.z3 rfl) <| vl (ldO hK Ty.o3 1 rfl rfl rfl) <| ?_
        refine cl call112 rfl (specRingNotify_c hK hr) ?_
        rintro _ w ⟨G1, hG1, ⟨v1, qs, rfl, hv1, hq1⟩, hK⟩
        refine vl mv <| vl (ext rfl rfl) <| vl (ext rfl rfl) <| vl asg <| vl (aB rfl) <| nl <| bkn <| ctn <| ?_
        exact ⟨(G1, v1, qs, _), ⟨rfl, rfl, rfl, rfl, trivial⟩, hG1, hv1, by rw [hO], fun _ => by rw [hO]; exact hq1, hK⟩
       ·refine sk <| bkn <| ctn <| ?_
        have hO : rgO wd.ring kd a b = (wd.ring, false) := by unfold rgO; rw [if_neg h1, if_neg h2, if_neg h3, if_neg h4, if_neg h5, if_neg h6]
        exact ⟨(G, _, rs, false), ⟨rfl, rfl, rfl, rfl, trivial⟩, VLe.refl _, hr, by rw [hO], fun h => (by cases h), hK⟩
 ·rintro ⟨G1, v1, qs, b9⟩ g w ⟨hG1, hv1, hb, hq, hK⟩
  simp only at hG1 hv1 hb hq hK
  refine thn <| sq <| sq <| rg <| ?_
  refine vl (mB rfl) <| nl <| thn <| ?_
  refine cdB rfl (fun h7 => ?_) fun h7 => ?_
  ·have hw : rgW wd kd a b = { wd with ring := (rgO wd.ring kd a b).1 } := if_pos (by rw [← hb]; exact h7)
   have hW1 : WdS G1 lc { W with r := v1 } (rgW wd kd a b) qs := by
    rw [hw]; exact ⟨hW.now, hv1, hq h7, LeaS.mono hW.leases hG1, hW.items.mono hG1, hW.next, hW.told.mono hG1, hW.since.mono hG1⟩
   refine rg <| ?_
   refine vl mv <| vl (fa underlying31 rfl Ty.z25 rfl) <| ?_
   refine so hK Ty.i25 rfl 2 rfl rfl rfl hv1.sl.1.one rfl ?_
   intro w hK
   refine nl <| thn <| sq <| rg <| vl (lsO hK Ty.a31 Ty.s31 2 rfl rfl rfl) <| ?_
   refine soS hK Ty.i31 0 rfl rfl rfl rfl (WdS.one hW1) rfl ?_
   intro w hK
   refine nl <| thn <| rt <| pg1r (rvS hK Ty.a31 Ty.s31 0 rfl rfl rfl) <| ?_
   exact ⟨G1, _, qs, hG1, rfl, hW1, hK.drop1.drop1.drop1⟩
  ·have hw : rgW wd kd a b = wd := if_neg (by rw [← hb]; exact fun h => Bool.false_ne_true (h7.symm.trans h))
   refine sk <| thn <| sq <| rg <| ?_
   refine vl (lsO hK Ty.a31 Ty.s31 2 rfl rfl rfl) <| ?_
   refine soS hK Ty.i31 0 rfl rfl rfl rfl (WdS.one hW) rfl ?_
   intro w hK
   refine nl <| thn <| rt <| pg1r (rvS hK Ty.a31 Ty.s31 0 rfl rfl rfl) <| ?_
   rw [hw]
   exact ⟨G1, _, rs, hG1, rfl, hW.mono hG1, hK.drop1.drop1.drop1⟩
theorem l51Lease_c (hK : K e w G L) (hW : WdS G lc W wd rs) (hok : LsOk wd.leases) (hn : Tm wd.now) : Ret prog 56 #[.agg (wc W).toArray, .agg (ec kd a b c).toArray] w (fun r w' => ∃ G' W', VLe G G' ∧ r = .agg (wc W').toArray ∧ WdS G' lc W' (leW wd kd a b c) rs ∧ K e w' G' L) := by
 have hr := hW.ring
 have hl := hW.leases
 have e1 := hW.now
 have e2 := hW.rg
 have hlt : 0 < wd.leases.length := by have := hok.1; omega
 have hn' : Tm W.now := by rw [e1]; exact hn
 refine enterG1 (args := [.agg (wc W).toArray, .agg (ec kd a b c).toArray]) func56 rfl rfl rfl rfl ?_
 refine sq <| rg <| ?_
 refine bx hK rfl rfl ?_
 intro b2 w hK
 refine bx hK rfl rfl ?_
 intro b3 w hK
 refine al hK Ty.i31 rfl ?_
 intro b4 w hK
 refine nl <| thn <| sq <| rg <| vl (fa underlying31 rfl Ty.z3 rfl) <| vl (ldO hK Ty.o3 2 rfl rfl rfl) <| vl (ad rfl rfl) <| vl (mn rfl rfl) <| vl (aI rfl) <| nl <| thn <| sq <| rg <| vl (fa underlying31 rfl Ty.z26 rfl) <| vl (ldO hK Ty.o26 2 rfl rfl rfl) <| vl asg <| nl <| thn <| ?_
 refine sq <| rg <| vl (aB rfl) <| nl <| thn <| sq <| ?_
 refine ct (σ := View × Value × List Ls × Bool) (fun s => [(2, .pointer (some ⟨b2, 0, none⟩)), (4, .pointer (some ⟨b4, 0, none⟩)), (6, s.2.1), (7, .bool s.2.2.2)]) (fun s w => VLe G s.1 ∧ (s.2.2.2 = true → LeaS s.1 s.2.1 s.2.2.1) ∧ (s.2.2.2 = true → { wd with leases := s.2.2.1 } = leW wd kd a b c) ∧ (s.2.2.2 = false → wd = leW wd kd a b c) ∧ K e w s.1 ((b4, row [.int .i64 0, .slice none 0 0, .slice none 0 0, .slice none 0 0, .int .i64 0, .slice none 0 0, .slice none 0 0] 31) :: (b3, row (ec kd a b c) 55) :: (b2, row (wc W) 31) :: L)) ?_ ?_
 ·refine bk <| sq <| rg <| ?_
  refine vl (fa underlying31 rfl Ty.z25 rfl) <| vl (ldO hK Ty.o25 2 rfl rfl rfl) <| vl (fa underlying55 rfl Ty.z3 rfl) <| vl (ldO hK Ty.o3 1 rfl rfl rfl) <| ?_
  refine cl call98 rfl (l3Find_c hK hr) ?_
  rintro _ w ⟨rfl, hK⟩
  refine vl (lt rfl rfl) <| vl (aB rfl) <| nl <| thn <| ?_
  refine cdP rfl (fun h0 => ?_) fun h0 => ?_
  ·have h0' : a ∉ ids wd.ring := by rw [← e2]; exact fun h => by have := fI_ge.2 h; omega
   have hw : leW wd kd a b c = wd := leW_no (by unfold leO; rw [if_pos h0'])
   refine sq <| rg <| ?_
   refine vl (lsO hK Ty.a31 Ty.s31 2 rfl rfl rfl) <| ?_
   refine soS hK Ty.i31 0 rfl rfl rfl rfl (WdS.one hW) rfl ?_
   intro w hK
   refine nl <| thn <| rt <| bkr <| ctr <| thr <| pg1r (rvS hK Ty.a31 Ty.s31 0 rfl rfl rfl) <| ?_
   rw [hw]
   exact ⟨G, _, VLe.refl _, rfl, hW, hK.drop1.drop1.drop1⟩
  ·have h0' : a ∈ ids wd.ring := by rw [← e2]; exact fI_ge.1 (by omega)
   have hnn : ¬ (a ∉ ids wd.ring) := fun h => h h0'
   refine sq <| ?_
   refine ct (σ := Bool) (fun s => [(2, .pointer (some ⟨b2, 0, none⟩)), (3, .pointer (some ⟨b3, 0, none⟩)), (4, .pointer (some ⟨b4, 0, none⟩)), (5, .int .i64 (utl W.now)), (6, W.l), (7, .bool false), (24, .bool s)]) (fun s w => (s = true ↔ kd = 7 ∧ c ∈ ids wd.ring ∧ Pt b ∧ own wd b = a) ∧ K e w G ((b4, row [.int .i64 0, .slice none 0 0, .slice none 0 0, .slice none 0 0, .int .i64 0, .slice none 0 0, .slice none 0 0] 31) :: (b3, row (ec kd a b c) 55) :: (b2, row (wc W) 31) :: L)) ?_ ?_
   ·skip
    refine rgq (fun w => K _ w _ _) Ty.mixed kr (hK.drawn _) ?_
    refine qv (fun w hK => (fa underlying55 rfl Ty.z3 rfl)) <| qldO Ty.o3 1 rfl rfl rfl <| qv (fun w hK => (eq rfl rfl)) <| qv (fun w hK => (mB rfl)) <| ?_
    refine qsplP (t := 28) rfl (fun q1 => ?_) fun q1 => ?_
    ·refine qgy rfl <| qv (fun w hK => (fa underlying31 rfl Ty.z25 rfl)) <| qgy rfl <| qldO Ty.o25 2 rfl rfl rfl <| qgy rfl <| qv (fun w hK => (fa underlying55 rfl Ty.z3 rfl)) <| qgy rfl <| qldO Ty.o3 1 rfl rfl rfl <| qgy rfl <| ?_
     refine qcl call98 rfl (fun w hK => l3Find_c hK hr) ?_
     refine qgy rfl <| qv (fun w hK => (ge rfl rfl)) <| qv (fun w hK => (pk rfl)) <| qv (fun w hK => (mB rfl)) <| ?_
     refine qsplP (t := 36) rfl (fun q2 => ?_) fun q2 => ?_
     ·have q2' : c ∈ ids wd.ring := by rw [← e2]; exact fI_ge.1 q2
      refine qgy rfl <| qv (fun w hK => (fa underlying55 rfl Ty.z3 rfl)) <| qgy rfl <| qldO Ty.o3 1 rfl rfl rfl <| qgy rfl <| ?_
      refine qcl call99 rfl (fun w hK => l1Point_c (C := fun w => K _ w _ _) hK) ?_
      refine qv (fun w hK => (pk rfl)) <| qv (fun w hK => (mB rfl)) <| ?_
      refine qsplP (t := 41) rfl (fun q3 => ?_) fun q3 => ?_
      ·refine qgy rfl <| qlsO Ty.a31 Ty.s31 2 rfl rfl rfl <| qgy rfl <| qv (fun w hK => (fa underlying55 rfl Ty.z3 rfl)) <| qgy rfl <| qldO Ty.o3 1 rfl rfl rfl <| qgy rfl <| ?_
       refine qcl call100 rfl (fun w hK => l51Owner_c hK hW hlt) ?_
       refine qgy rfl <| qv (fun w hK => (fa underlying55 rfl Ty.z3 rfl)) <| qgy rfl <| qldO Ty.o3 1 rfl rfl rfl <| qgy rfl <| qv (fun w hK => (eq rfl rfl)) <| qv (fun w hK => (pk rfl)) <| qv (fun w hK => (aB rfl)) <| qn <| ?_
       intro w hK
       refine ctn <| ?_
       exact ⟨_, ⟨rfl, rfl, rfl, rfl, rfl, rfl, rfl, trivial⟩, by rw [decide_eq_true_eq]; exact ⟨fun h => ⟨q1, q2', q3, h⟩, fun h => h.2.2.2⟩, hK⟩
      ·refine qgn rfl <| qgn rfl <| qgn rfl <| qgn rfl <| qgn rfl <| qgn rfl <| qgn rfl <| qv (fun w hK => (pk rfl)) <| qv (fun w hK => (aB rfl)) <| qn <| ?_
       intro w hK
       refine ctn <| ?_
       exact ⟨_, ⟨rfl, rfl, rfl, rfl, rfl, rfl, rfl, trivial⟩, by simp only [Bool.false_eq_true, false_iff]; exact fun h => q3 h.2.2.1, hK⟩
     ·have q2' : c ∉ ids wd.ring := by rw [← e2]; exact fun h => q2 (fI_ge.2 h)
      refine qgn rfl <| qgn rfl <| qgn rfl <| qv (fun w hK => (pk rfl)) <| qv (fun w hK => (mB rfl)) <| qgn rfl <| qgn rfl <| qgn rfl <| qgn rfl <| qgn rfl <| qgn rfl <| qgn rfl <| qv (fun w hK => (pk rfl)) <| qv (fun w hK => (aB rfl)) <| qn <| ?_
      intro w hK
      refine ctn <| ?_
      exact ⟨_, ⟨rfl, rfl, rfl, rfl, rfl, rfl, rfl, trivial⟩, by simp [q2'], hK⟩
    ·refine qgn rfl <| qgn rfl <| qgn rfl <| qgn rfl <| qgn rfl <| qgn rfl <| qv (fun w hK => (pk rfl)) <| qv (fun w hK => (mB rfl)) <| qgn rfl <| qgn rfl <| qgn rfl <| qv (fun w hK => (pk rfl)) <| qv (fun w hK => (mB rfl)) <| qgn rfl <| qgn rfl <| qgn rfl <| qgn rfl <| qgn rfl <| qgn rfl <| qgn rfl <| qv (fun w hK => (pk rfl)) <| qv (fun w hK => (aB rfl)) <| qn <| ?_
     intro w hK
     refine ctn <| ?_
     exact ⟨_, ⟨rfl, rfl, rfl, rfl, rfl, rfl, rfl, trivial⟩, by simp [q1], hK⟩
   ·rintro s g w ⟨hs, hK⟩
    refine thn <| ?_
    refine cdB rfl (fun g1 => ?_) fun g1 => ?_
    ·have g1' := hs.1 g1
     have hO : leO wd kd a b c = tkL wd.leases (Pt a ∧ Pt b ∧ Pt c ∧ Tm (utl W.now)) (handL wd.leases a b c (utl W.now)) := by unfold leO; rw [if_neg hnn, if_pos g1'.1, if_pos g1'.2, e1]
     refine rg <| ?_
     refine vl (fa underlying31 rfl Ty.z26 rfl) <| vl (ldO hK Ty.o26 2 rfl rfl rfl) <| vl (fa underlying55 rfl Ty.z3 rfl) <| vl (ldO hK Ty.o3 1 rfl rfl rfl) <| vl (fa underlying55 rfl Ty.z3 rfl) <| vl (ldO hK Ty.o3 1 rfl rfl rfl) <| vl (fa underlying55 rfl Ty.z3 rfl) <| vl (ldO hK Ty.o3 1 rfl rfl rfl) <| vl (mI rfl) <| ?_
     refine cl call101 rfl (specLeaseHand_c hK hl) ?_
     rintro _ w ⟨G1, hG1, ⟨v1, rfl, hv1⟩, hK⟩
     refine vl mv <| vl (ext rfl rfl) <| vl (ext rfl rfl) <| vl asg <| vl (aB rfl) <| nl <| bkn <| ctn <| ?_
     exact ⟨(G1, v1, _, _), ⟨rfl, rfl, rfl, rfl, trivial⟩, hG1, fun _ => hv1, (leW_T hO).1, (leW_T hO).2, hK⟩
    ·have g1' : ¬ (kd = 7 ∧ c ∈ ids wd.ring ∧ Pt b ∧ own wd b = a) := fun h => by rw [hs.2 h] at g1; cases g1
     refine sq <| rg <| ?_
     refine vl (fa underlying55 rfl Ty.z3 rfl) <| vl (ldO hK Ty.o3 1 rfl rfl rfl) <| vl (eq rfl rfl) <| vl (aB rfl) <| nl <| thn <| ?_
     refine cdP rfl (fun g2 => ?_) fun g2 => ?_
     ·have hO : leO wd kd a b c = tkL wd.leases (Pt b ∧ Pt a ∧ Tm W.now ∧ Tm (utl W.now)) (takeL wd.leases b a W.now (utl W.now)) := by unfold leO; rw [if_neg hnn, if_neg (by omega), if_pos g2, e1]
      refine rg <| ?_
      refine vl (fa underlying31 rfl Ty.z26 rfl) <| vl (ldO hK Ty.o26 2 rfl rfl rfl) <| vl (fa underlying55 rfl Ty.z3 rfl) <| vl (ldO hK Ty.o3 1 rfl rfl rfl) <| vl (fa underlying55 rfl Ty.z3 rfl) <| vl (ldO hK Ty.o3 1 rfl rfl rfl) <| vl (fa underlying31 rfl Ty.z3 rfl) <| vl (ldO hK Ty.o3 2 rfl rfl rfl) <| vl (mI rfl) <| ?_
      refine cl call102 rfl (specLeaseTake_c hK hl) ?_
      rintro _ w ⟨G1, hG1, ⟨v1, rfl, hv1⟩, hK⟩
      refine vl mv <| vl (ext rfl rfl) <| vl (ext rfl rfl) <| vl asg <| vl (aB rfl) <| nl <| bkn <| ctn <| ?_
      exact ⟨(G1, v1, _, _), ⟨rfl, rfl, rfl, rfl, trivial⟩, hG1, fun _ => hv1, (leW_T hO).1, (leW_T hO).2, hK⟩
     ·refine sq <| rg <| ?_
      refine vl (fa underlying55 rfl Ty.z3 rfl) <| vl (ldO hK Ty.o3 1 rfl rfl rfl) <| vl (eq rfl rfl) <| vl (aB rfl) <| nl <| thn <| ?_
      refine cdP rfl (fun g3 => ?_) fun g3 => ?_
      ·refine sq <| rg <| ?_
       refine vl (fa underlying31 rfl Ty.z26 rfl) <| vl (ldO hK Ty.o26 2 rfl rfl rfl) <| vl (fa underlying55 rfl Ty.z3 rfl) <| vl (ldO hK Ty.o3 1 rfl rfl rfl) <| vl (fa underlying31 rfl Ty.z3 rfl) <| vl (ldO hK Ty.o3 2 rfl rfl rfl) <| vl (mI rfl) <| ?_
       refine cl call103 rfl (specLeaseRenew_c hK hl) ?_
       rintro _ w ⟨G1, u1, n1, hG1, rfl, hno, hyes, hK⟩
       refine vl mv <| vl (ext rfl rfl) <| vl (ext rfl rfl) <| vl asg <| vl (aI rfl) <| nl <| thn <| sq <| rg <| vl mv <| vl asg <| nl <| thn <| rg <| vl (mI rfl) <| vl (gt rfl rfl) <| vl (aB rfl) <| nl <| bkn <| ctn <| ?_
       by_cases hpa : Pt a
       ·have hO : leO wd kd a b c = (renewL wd.leases a W.now (utl W.now), true) := by unfold leO; rw [if_neg hnn, if_neg (by omega), if_neg g2, if_pos g3, if_pos hpa, e1]
        have hy := hyes ⟨hok, hpa, hn', utl_tm hn'⟩
        refine ⟨(G1, u1, renewL wd.leases a W.now (utl W.now), _), ⟨rfl, rfl, rfl, rfl, trivial⟩, hG1, fun _ => hy.2, fun _ => (leW_yes hO).symm, fun h => ?_, hK⟩
        have h0 : renewN wd.leases a W.now (utl W.now) = 0 := by
         have := of_decide_eq_false h
         have := hy.1
         omega
        rw [leW_yes hO, renew_none h0]
       ·have hO : leO wd kd a b c = (wd.leases, false) := by unfold leO; rw [if_neg hnn, if_neg (by omega), if_neg g2, if_pos g3, if_neg hpa]
        have hn1 := hno fun h => hpa h.2.1
        exact ⟨(G1, u1, [], _), ⟨rfl, rfl, rfl, rfl, trivial⟩, hG1, fun h => absurd (of_decide_eq_true h) (by omega), fun h => absurd (of_decide_eq_true h) (by omega), fun _ => (leW_no hO).symm, hK⟩
      ·refine sk <| bkn <| ctn <| ?_
       have hO : leO wd kd a b c = (wd.leases, false) := by
        unfold leO; rw [if_neg hnn]
        by_cases h7 : kd = 7
        ·rw [if_pos h7, if_neg fun h => g1' ⟨h7, h⟩]
        ·rw [if_neg h7, if_neg g2, if_neg g3]
       exact ⟨(G, _, [], false), ⟨rfl, rfl, rfl, rfl, trivial⟩, VLe.refl _, fun h => (by cases h), fun h => (by cases h), fun _ => (leW_no hO).symm, hK⟩
 ·rintro ⟨G1, v1, l1, b9⟩ g w ⟨hG1, hv1, ht, hf, hK⟩
  simp only at hG1 hv1 ht hf hK
  refine thn <| sq <| sq <| rg <| ?_
  refine vl (mB rfl) <| nl <| thn <| ?_
  refine cdB rfl (fun h7 => ?_) fun h7 => ?_
  ·have hv1' := hv1 h7
   have hW1 : WdS G1 lc { W with l := v1 } (leW wd kd a b c) rs := by
    rw [← ht h7]; exact ⟨hW.now, hW.ring.mono hG1, hW.rg, hv1', hW.items.mono hG1, hW.next, hW.told.mono hG1, hW.since.mono hG1⟩
   refine rg <| ?_
   refine vl mv <| vl (fa underlying31 rfl Ty.z26 rfl) <| ?_
   refine so hK Ty.i26 rfl 2 rfl rfl rfl (SlW.one hv1'.1) rfl ?_
   intro w hK
   refine nl <| thn <| sq <| rg <| vl (lsO hK Ty.a31 Ty.s31 2 rfl rfl rfl) <| ?_
   refine soS hK Ty.i31 0 rfl rfl rfl rfl (WdS.one hW1) rfl ?_
   intro w hK
   refine nl <| thn <| rt <| pg1r (rvS hK Ty.a31 Ty.s31 0 rfl rfl rfl) <| ?_
   exact ⟨G1, _, hG1, rfl, hW1, hK.drop1.drop1.drop1⟩
  ·skip
   refine sk <| thn <| sq <| rg <| ?_
   refine vl (lsO hK Ty.a31 Ty.s31 2 rfl rfl rfl) <| ?_
   refine soS hK Ty.i31 0 rfl rfl rfl rfl (WdS.one hW) rfl ?_
   intro w hK
   refine nl <| thn <| rt <| pg1r (rvS hK Ty.a31 Ty.s31 0 rfl rfl rfl) <| ?_
   rw [← hf h7]
   exact ⟨G1, _, hG1, rfl, hW.mono hG1, hK.drop1.drop1.drop1⟩
end
end Go.Proofs.YtmgggljicpmndaaGreatDoor
