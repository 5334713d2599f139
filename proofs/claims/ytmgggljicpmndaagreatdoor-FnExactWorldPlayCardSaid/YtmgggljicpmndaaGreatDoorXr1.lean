/- Contracts of the functions that copy, measure and compare worlds. Contracts of the program's copies of rings, and of its steps: what they leave lies in new memory. Conditions: those that each row states. -/
import Derived.Test.YtmgggljicpmndaaGreatDoorWm
import Derived.Test.YtmgggljicpmndaaGreatDoorSe
import Derived.Test.YtmgggljicpmndaaGreatDoorRq
import Derived.Test.YtmgggljicpmndaaGreatDoorRgG
namespace Go.Proofs.YtmgggljicpmndaaGreatDoor
open Go Go.Ro Tryz
section
variable {e w : World} {G : View} {L A : Own} {v u t t2 : Value} {xs ys : List Int} {ls ms : List Ls} {rs qs : List Rn} {zs ts : List It} {W W' : Wv} {wd wd' : Wd} {n m k : Int}
def WdL (wd : Wd) : Prop := wd.ring.length ≤ 1048576 ∧ (∀ x ∈ wd.ring, x.2.2.length ≤ 1048576) ∧ wd.leases.length ≤ 1048576 ∧ wd.items.length ≤ 1048576 ∧ wd.scan.2.length ≤ 1048576 ∧ wd.since.length ≤ 1048576
theorem eqNode_c (hK : K e w G L) {x y : Rn} (hx : IntS G x.2.2.1 x.2.2.2) (hy : IntS G y.2.2.1 y.2.2.2) : Ret prog 67 #[.agg (rc x).toArray, .agg (rc y).toArray] w (fun r w' => r = .bool (dec (nd x = nd y)) ∧ K e w' G L) := by
 refine enter1 (args := [.agg (rc x).toArray, .agg (rc y).toArray]) func67 rfl rfl rfl rfl ?_
 refine sq <| rg <| ?_
 refine bx hK rfl rfl ?_
 intro b2 w hK
 refine bx hK rfl rfl ?_
 intro b3 w hK
 refine vl (aB rfl) <| nl <| thn <| sq <| sq <| rg <| vl (fa underlying98 rfl Ty.z3 rfl) <| vl (ldO hK Ty.o3 1 rfl rfl rfl) <| vl (fa underlying98 rfl Ty.z3 rfl) <| vl (ldO hK Ty.o3 0 rfl rfl rfl) <| vl (ne rfl rfl) <| nl <| thn <| ?_
 refine cdP rfl (fun h1 => ?_) fun h1 => ?_
 ·refine sq <| rg <| ?_
  refine vl (aB rfl) <| nl <| thn <| rt <| thr <| p1r (a := .bool _) rfl <| ?_
  exact ⟨by rw [dec_f fun h => h1 (congrArg (fun n : Nd => n.1) h)], hK.drop1.drop1⟩
 ·refine sk <| thn <| sq <| sq <| rg <| ?_
  refine vl (fa underlying98 rfl Ty.z3 rfl) <| vl (ldO hK Ty.o3 1 rfl rfl rfl) <| vl (fa underlying98 rfl Ty.z3 rfl) <| vl (ldO hK Ty.o3 0 rfl rfl rfl) <| vl (ne rfl rfl) <| nl <| thn <| ?_
  refine cdP rfl (fun h2 => ?_) fun h2 => ?_
  ·refine sq <| rg <| ?_
   refine vl (aB rfl) <| nl <| thn <| rt <| thr <| p1r (a := .bool _) rfl <| ?_
   exact ⟨by rw [dec_f fun h => h2 (congrArg (fun n : Nd => n.2.1) h)], hK.drop1.drop1⟩
  ·refine sk <| thn <| sq <| sq <| rg <| ?_
   refine vl (fa underlying98 rfl Ty.z22 rfl) <| vl (ldO hK Ty.o22 1 rfl rfl rfl) <| vl (fa underlying98 rfl Ty.z22 rfl) <| vl (ldO hK Ty.o22 0 rfl rfl rfl) <| ?_
   refine cl call11 rfl (eqIntS_c hK hx hy) ?_
   rintro _ w ⟨rfl, hK⟩
   refine vl (nt rfl) <| nl <| thn <| ?_
   refine cdP rfl (fun h3 => ?_) fun h3 => ?_
   ·refine sq <| rg <| ?_
    refine vl (aB rfl) <| nl <| thn <| rt <| thr <| p1r (a := .bool _) rfl <| ?_
    exact ⟨by rw [dec_f fun h => h3 (congrArg (fun n : Nd => n.2.2) h)], hK.drop1.drop1⟩
   ·refine sk <| thn <| sq <| rg <| ?_
    refine vl (aB rfl) <| nl <| thn <| rt <| p1r (a := .bool _) rfl <| ?_
    exact ⟨by rw [dec_t (nd_eq (Decidable.not_not.1 h1) (Decidable.not_not.1 h2) (Decidable.not_not.1 h3))], hK.drop1.drop1⟩
theorem eqItem_c (hK : K e w G L) {x y : It} : Ret prog 69 #[.agg (ic x).toArray, .agg (ic y).toArray] w (fun r w' => r = .bool (dec (x = y)) ∧ K e w' G L) := by
 refine enter1 (args := [.agg (ic x).toArray, .agg (ic y).toArray]) func69 rfl rfl rfl rfl ?_
 refine sq <| rg <| ?_
 refine bx hK rfl rfl ?_
 intro b2 w hK
 refine bx hK rfl rfl ?_
 intro b3 w hK
 refine vl (aB rfl) <| nl <| thn <| sq <| sq <| rg <| vl (fa underlying104 rfl Ty.z3 rfl) <| vl (ldO hK Ty.o3 1 rfl rfl rfl) <| vl (fa underlying104 rfl Ty.z3 rfl) <| vl (ldO hK Ty.o3 0 rfl rfl rfl) <| vl (ne rfl rfl) <| nl <| thn <| ?_
 refine cdP rfl (fun h1 => ?_) fun h1 => ?_
 ·refine sq <| rg <| ?_
  refine vl (aB rfl) <| nl <| thn <| rt <| thr <| p1r (a := .bool _) rfl <| ?_
  exact ⟨by rw [dec_f]; rintro rfl; exact h1 rfl, hK.drop1.drop1⟩
 ·refine sk <| thn <| sq <| sq <| rg <| ?_
  refine vl (fa underlying104 rfl Ty.z3 rfl) <| vl (ldO hK Ty.o3 1 rfl rfl rfl) <| vl (fa underlying104 rfl Ty.z3 rfl) <| vl (ldO hK Ty.o3 0 rfl rfl rfl) <| vl (ne rfl rfl) <| nl <| thn <| ?_
  refine cdP rfl (fun h2 => ?_) fun h2 => ?_
  ·refine sq <| rg <| ?_
   refine vl (aB rfl) <| nl <| thn <| rt <| thr <| p1r (a := .bool _) rfl <| ?_
   exact ⟨by rw [dec_f]; rintro rfl; exact h2 rfl, hK.drop1.drop1⟩
  ·refine sk <| thn <| sq <| rg <| ?_
   refine vl (aB rfl) <| nl <| thn <| rt <| p1r (a := .bool _) rfl <| ?_
   exact ⟨by rw [dec_t (Prod.ext (Decidable.not_not.1 h1) (Decidable.not_not.1 h2))], hK.drop1.drop1⟩
theorem eqNodeS_c (hK : K e w G L) (hv : RngS G v rs) (hu : RngS G u qs) : Ret prog 27 #[v, u] w (fun r w' => r = .bool (dec (rgl rs = rgl qs)) ∧ K e w' G L) := by
 have hs := hv.sl
 have hs2 := hu.sl
 have hle := hs.le
 refine enter1 (args := [v, u]) func27 rfl rfl rfl rfl ?_
 refine sq <| rg <| ?_
 refine vl (aB rfl) <| nl <| thn <| sq <| sq <| rg <| vl mv <| vl (ln underlying25 rfl hs.len) <| vl mv <| vl (ln underlying25 rfl hs2.len) <| vl (ne rfl rfl) <| nl <| thn <| ?_
 refine cdP rfl (fun h0 => ?_) fun h0 => ?_
 ·refine sq <| rg <| ?_
  refine vl (aB rfl) <| nl <| thn <| rt <| thr <| p1r (a := .bool _) rfl <| ?_
  exact ⟨by rw [dec_f fun h => h0 (by have := congrArg List.length h; rw [rg_len, rg_len] at this; omega)], hK⟩
 ·have hln : rs.length = qs.length := by omega
  refine sk <| thn <| sq <| sq <| rg <| ?_
  refine vl (aI rfl) <| nl <| thn <| bk <| ?_
  refine lp (σ := Nat) (fun i => [(0, v), (1, u), (5, .int .i64 (i : Int))]) (fun i w => i ≤ rs.length ∧ rgl (rs.take i) = rgl (qs.take i) ∧ K e w G L) (fun i => rs.length - i) 0 ⟨rfl, rfl, rfl, trivial⟩ ⟨Nat.zero_le _, rfl, hK⟩ ?_
  rintro i g w ⟨hi, ha, hK⟩
  refine sq <| sq <| rg <| ?_
  refine vl (mI rfl) <| vl mv <| vl (ln underlying25 rfl hs.len) <| vl (lt rfl rfl) <| nl <| thn <| ?_
  refine cdP rfl (fun hc => ?_) fun hc => ?_
  ·have hi' : i < rs.length := by omega
   have hi2 : i < qs.length := by omega
   refine sk <| thn <| sq <| bk <| sq <| ?_
   refine rgq (fun w => K _ w _ _) Ty.mixed kr (hK.drawn _) ?_
   refine qv (fun w hK => mv) <| qv (fun w hK => (mI rfl)) <| qv (fun w hK => (ixn underlying25 Ty.s98 rfl hs.1 rfl om)) <| qv (fun w hK => (lsF hK Ty.a98 Ty.s98 rfl hs om)) <| qv (fun w hK => mv) <| qv (fun w hK => (mI rfl)) <| qv (fun w hK => (ixn underlying25 Ty.s98 rfl hs2.1 rfl om)) <| qv (fun w hK => (lsF hK Ty.a98 Ty.s98 rfl hs2 om)) <| ?_
   refine qcl call67 rfl (fun w hK => eqNode_c hK (hv.at hi') (hu.at hi2)) ?_
   refine qv (fun w hK => (ntB rfl)) <| qn <| ?_
   intro w hK
   refine thn <| ?_
   refine cdB rfl (fun h1 => ?_) fun h1 => ?_
   ·have h1' := not_dec (Eq.mp (Bool.not_eq_true' _) h1)
    refine sq <| rg <| ?_
    refine vl (aB rfl) <| nl <| thn <| rt <| bkr <| thr <| thr <| bkr <| thr <| p1r (a := .bool _) rfl <| ?_
    exact ⟨by rw [dec_f fun h => h1' (by rw [← rg_get hi', ← rg_get hi2]; simp only [h])], hK⟩
   ·have h1' := of_dec (Eq.mp (Bool.not_eq_false' _) h1)
    refine sk <| bkn <| thn <| rg <| ?_
    refine vl (mI rfl) <| vl (ad rfl rfl) <| vl (aI rfl) <| nl <| thn <| ?_
    exact ⟨i + 1, ⟨rfl, rfl, rfl, trivial⟩, ⟨hi', by rw [rgl_take_succ hi', rgl_take_succ hi2, ha, h1'], hK⟩, by omega⟩
  ·have hi' : i = rs.length := by omega
   subst hi'
   rw [List.take_length, hln, List.take_length] at ha
   refine ex <| the <| the <| bkh <| thn <| sq <| rg <| ?_
   refine vl (aB rfl) <| nl <| thn <| rt <| p1r (a := .bool _) rfl <| ?_
   exact ⟨by rw [dec_t ha], hK⟩
theorem eqItemS_c (hK : K e w G L) (hv : ItS G v zs) (hu : ItS G u ts) : Ret prog 29 #[v, u] w (fun r w' => r = .bool (dec (zs = ts)) ∧ K e w' G L) := by
 have hle := hv.le
 refine enter1 (args := [v, u]) func29 rfl rfl rfl rfl ?_
 refine sq <| rg <| ?_
 refine vl (aB rfl) <| nl <| thn <| sq <| sq <| rg <| vl mv <| vl (ln underlying27 rfl hv.len) <| vl mv <| vl (ln underlying27 rfl hu.len) <| vl (ne rfl rfl) <| nl <| thn <| ?_
 refine cdP rfl (fun h0 => ?_) fun h0 => ?_
 ·refine sq <| rg <| ?_
  refine vl (aB rfl) <| nl <| thn <| rt <| thr <| p1r (a := .bool _) rfl <| ?_
  exact ⟨by rw [dec_f fun h => h0 (by have := congrArg List.length h; omega)], hK⟩
 ·have hln : zs.length = ts.length := by omega
  refine sk <| thn <| sq <| sq <| rg <| ?_
  refine vl (aI rfl) <| nl <| thn <| bk <| ?_
  refine lp (σ := Nat) (fun i => [(0, v), (1, u), (5, .int .i64 (i : Int))]) (fun i w => i ≤ zs.length ∧ zs.take i = ts.take i ∧ K e w G L) (fun i => zs.length - i) 0 ⟨rfl, rfl, rfl, trivial⟩ ⟨Nat.zero_le _, rfl, hK⟩ ?_
  rintro i g w ⟨hi, ha, hK⟩
  refine sq <| sq <| rg <| ?_
  refine vl (mI rfl) <| vl mv <| vl (ln underlying27 rfl hv.len) <| vl (lt rfl rfl) <| nl <| thn <| ?_
  refine cdP rfl (fun hc => ?_) fun hc => ?_
  ·have hi' : i < zs.length := by omega
   have hi2 : i < ts.length := by omega
   refine sk <| thn <| sq <| bk <| sq <| ?_
   refine rgq (fun w => K _ w _ _) Ty.mixed kr (hK.drawn _) ?_
   refine qv (fun w hK => mv) <| qv (fun w hK => (mI rfl)) <| qv (fun w hK => (ixn underlying27 Ty.s104 rfl hv.1 rfl om)) <| qv (fun w hK => (lsF hK Ty.a104 Ty.s104 rfl hv om)) <| qv (fun w hK => mv) <| qv (fun w hK => (mI rfl)) <| qv (fun w hK => (ixn underlying27 Ty.s104 rfl hu.1 rfl om)) <| qv (fun w hK => (lsF hK Ty.a104 Ty.s104 rfl hu om)) <| ?_
   refine qcl call69 rfl (fun w hK => eqItem_c hK) ?_
   refine qv (fun w hK => (ntB rfl)) <| qn <| ?_
   intro w hK
   refine thn <| ?_
   refine cdB rfl (fun h1 => ?_) fun h1 => ?_
   ·have h1' := not_dec (Eq.mp (Bool.not_eq_true' _) h1)
    refine sq <| rg <| ?_
    refine vl (aB rfl) <| nl <| thn <| rt <| bkr <| thr <| thr <| bkr <| thr <| p1r (a := .bool _) rfl <| ?_
    exact ⟨by rw [dec_f fun h => h1' (by simp only [h])], hK⟩
   ·have h1' := of_dec (Eq.mp (Bool.not_eq_false' _) h1)
    refine sk <| bkn <| thn <| rg <| ?_
    refine vl (mI rfl) <| vl (ad rfl rfl) <| vl (aI rfl) <| nl <| thn <| ?_
    exact ⟨i + 1, ⟨rfl, rfl, rfl, trivial⟩, ⟨hi', by rw [List.take_succ_eq_append_getElem hi', List.take_succ_eq_append_getElem hi2, ha, h1'], hK⟩, by omega⟩
  ·have hi' : i = zs.length := by omega
   subst hi'
   rw [List.take_length, hln, List.take_length] at ha
   refine ex <| the <| the <| bkh <| thn <| sq <| rg <| ?_
   refine vl (aB rfl) <| nl <| thn <| rt <| p1r (a := .bool _) rfl <| ?_
   exact ⟨by rw [dec_t ha], hK⟩
theorem eqWorld_c (hK : K e w G L) (hW : WdS G lc W wd rs) (hW' : WdS G lc W' wd' qs) : Ret prog 10 #[.agg (wc W).toArray, .agg (wc W').toArray] w (fun r w' => r = .bool (dec (wd = wd')) ∧ K e w' G L) := by
 have r1 := hW.ring
 have r2 := hW'.ring
 have l1 := hW.leases
 have l2 := hW'.leases
 have i1 := hW.items
 have i2 := hW'.items
 have t1 := hW.told
 have t2 := hW'.told
 have s1 := hW.since
 have s2 := hW'.since
 refine enter1 (args := [.agg (wc W).toArray, .agg (wc W').toArray]) func10 rfl rfl rfl rfl ?_
 refine sq <| rg <| ?_
 refine bx hK rfl rfl ?_
 intro b2 w hK
 refine bx hK rfl rfl ?_
 intro b3 w hK
 refine vl (aB rfl) <| nl <| thn <| sq <| sq <| rg <| vl (fa underlying31 rfl Ty.z3 rfl) <| vl (ldO hK Ty.o3 1 rfl rfl rfl) <| vl (fa underlying31 rfl Ty.z3 rfl) <| vl (ldO hK Ty.o3 0 rfl rfl rfl) <| vl (ne rfl rfl) <| nl <| thn <| ?_
 refine cdP rfl (fun h1 => ?_) fun h1 => ?_
 ·refine sq <| rg <| ?_
  refine vl (aB rfl) <| nl <| thn <| rt <| thr <| p1r (a := .bool _) rfl <| ?_
  exact ⟨by rw [dec_f fun h => h1 (by rw [hW.now, hW'.now, h])], hK.drop1.drop1⟩
 ·have e1 : wd.now = wd'.now := by rw [← hW.now, ← hW'.now]; exact Decidable.not_not.1 h1
  refine sk <| thn <| sq <| sq <| rg <| ?_
  refine vl (fa underlying31 rfl Ty.z25 rfl) <| vl (ldO hK Ty.o25 1 rfl rfl rfl) <| vl (fa underlying31 rfl Ty.z25 rfl) <| vl (ldO hK Ty.o25 0 rfl rfl rfl) <| ?_
  refine cl call27 rfl (eqNodeS_c hK r1 r2) ?_
  rintro _ w ⟨rfl, hK⟩
  refine vl (ntB rfl) <| nl <| thn <| ?_
  refine cdB rfl (fun h2 => ?_) fun h2 => ?_
  ·have h2' := not_dec (Eq.mp (Bool.not_eq_true' _) h2)
   refine sq <| rg <| ?_
   refine vl (aB rfl) <| nl <| thn <| rt <| thr <| p1r (a := .bool _) rfl <| ?_
   exact ⟨by rw [dec_f fun h => h2' (by rw [hW.rg, hW'.rg, h])], hK.drop1.drop1⟩
  ·have e2 : wd.ring = wd'.ring := by rw [← hW.rg, ← hW'.rg]; exact of_dec (Eq.mp (Bool.not_eq_false' _) h2)
   refine sk <| thn <| sq <| sq <| rg <| ?_
   refine vl (fa underlying31 rfl Ty.z26 rfl) <| vl (ldO hK Ty.o26 1 rfl rfl rfl) <| vl (fa underlying31 rfl Ty.z26 rfl) <| vl (ldO hK Ty.o26 0 rfl rfl rfl) <| ?_
   refine cl call28 rfl (eqLeaseS_c hK l1 l2) ?_
   rintro _ w ⟨rfl, hK⟩
   refine vl (nt rfl) <| nl <| thn <| ?_
   refine cdP rfl (fun h3 => ?_) fun h3 => ?_
   ·refine sq <| rg <| ?_
    refine vl (aB rfl) <| nl <| thn <| rt <| thr <| p1r (a := .bool _) rfl <| ?_
    exact ⟨by rw [dec_f fun h => h3 (congrArg Wd.leases h)], hK.drop1.drop1⟩
   ·have e3 := Decidable.not_not.1 h3
    refine sk <| thn <| sq <| sq <| rg <| ?_
    refine vl (fa underlying31 rfl Ty.z27 rfl) <| vl (ldO hK Ty.o27 1 rfl rfl rfl) <| vl (fa underlying31 rfl Ty.z27 rfl) <| vl (ldO hK Ty.o27 0 rfl rfl rfl) <| ?_
    refine cl call29 rfl (eqItemS_c hK i1 i2) ?_
    rintro _ w ⟨rfl, hK⟩
    refine vl (ntB rfl) <| nl <| thn <| ?_
    refine cdB rfl (fun h4 => ?_) fun h4 => ?_
    ·have h4' := not_dec (Eq.mp (Bool.not_eq_true' _) h4)
     refine sq <| rg <| ?_
     refine vl (aB rfl) <| nl <| thn <| rt <| thr <| p1r (a := .bool _) rfl <| ?_
     exact ⟨by rw [dec_f fun h => h4' (congrArg Wd.items h)], hK.drop1.drop1⟩
    ·have e4 := of_dec (Eq.mp (Bool.not_eq_false' _) h4)
     refine sk <| thn <| sq <| sq <| rg <| ?_
     refine vl (fa underlying31 rfl Ty.z29 rfl) <| vl (lsP (u := [.int .i64 W.next, W.t]) hK Ty.a29 Ty.s29 1 rfl rfl rfl rfl) <| vl (fa underlying31 rfl Ty.z29 rfl) <| vl (lsP (u := [.int .i64 W'.next, W'.t]) hK Ty.a29 Ty.s29 0 rfl rfl rfl rfl) <| ?_
     refine cl call30 rfl (eqScan_c hK t1 t2) ?_
     rintro _ w ⟨rfl, hK⟩
     refine vl (nt rfl) <| nl <| thn <| ?_
     refine cdP rfl (fun h5 => ?_) fun h5 => ?_
     ·refine sq <| rg <| ?_
      refine vl (aB rfl) <| nl <| thn <| rt <| thr <| p1r (a := .bool _) rfl <| ?_
      exact ⟨by rw [dec_f fun h => h5 (by rw [hW.next, hW'.next, h]; exact ⟨rfl, rfl⟩)], hK.drop1.drop1⟩
     ·have h5' := Decidable.not_not.1 h5
      have e5 : wd.scan = wd'.scan := Prod.ext (by rw [← hW.next, ← hW'.next]; exact h5'.1) h5'.2
      refine sk <| thn <| sq <| sq <| rg <| ?_
      refine vl (fa underlying31 rfl Ty.z22 rfl) <| vl (ldO hK Ty.o22 1 rfl rfl rfl) <| vl (fa underlying31 rfl Ty.z22 rfl) <| vl (ldO hK Ty.o22 0 rfl rfl rfl) <| ?_
      refine cl call11 rfl (eqIntS_c hK s1 s2) ?_
      rintro _ w ⟨rfl, hK⟩
      refine vl (nt rfl) <| nl <| thn <| ?_
      refine cdP rfl (fun h6 => ?_) fun h6 => ?_
      ·refine sq <| rg <| ?_
       refine vl (aB rfl) <| nl <| thn <| rt <| thr <| p1r (a := .bool _) rfl <| ?_
       exact ⟨by rw [dec_f fun h => h6 (congrArg Wd.since h)], hK.drop1.drop1⟩
      ·refine sk <| thn <| sq <| rg <| ?_
       refine vl (aB rfl) <| nl <| thn <| rt <| p1r (a := .bool _) rfl <| ?_
       exact ⟨by rw [dec_t (wd_eq e1 e2 e3 e4 e5 (Decidable.not_not.1 h6))], hK.drop1.drop1⟩
end
open Go Go.Ro Tryz
section
variable {e w : World} {G G0 : View} {L A : Own} {v u : Value} {xs ys ks : List Int} {ls : List Ls} {rs qs : List Rn} {a b k id other at' : Int} {i j sb bk : Nat}
theorem copyRingF_c (hK : K e w G L) (hv : RngS G v rs) (hok : RgOk (rgl rs)) :
  Ret prog 91 #[v] w (fun r w' => ∃ G' rs' A, VLe G G' ∧ rgl rs' = rgl rs ∧ OR G' 98 r rs' A ∧ RnF 3 G G' rs' ∧ K e w' G' (A ++ L)) := by
 have hal := hal_of hok
 have hlen := len_of hok
 refine enter1 (args := [v]) func91 rfl rfl rfl rfl ?_
 refine sq <| rg <| ?_
 refine vl asg <| nl <| thn <| sq <| rg <| vl mv <| ?_
 refine cl call140 rfl (cloneN_c hK hv om) ?_
 rintro v1 w ⟨A0, ho0, hK⟩
 refine vl asg <| nl <| thn <| sq <| sq <| rg <| vl mv <| vl (ln underlying25 rfl ho0.len) <| vl (mI rfl) <| nl <| thn <| bk <| ?_
 refine lp (σ := Nat × View × List Rn × Own) (fun s => [(3, v1), (8, .int .i64 (rs.length : Int)), (9, .int .i64 (s.1 : Int))]) (fun s w => s.1 ≤ rs.length ∧ VLe G s.2.1 ∧ rgl s.2.2.1 = rgl rs ∧ (∀ x ∈ s.2.2.1, x.2.2.2.length ≤ 1000) ∧ OR s.2.1 98 v1 s.2.2.1 s.2.2.2 ∧ RnF 3 G s.2.1 (s.2.2.1.take s.1) ∧ K e w s.2.1 (s.2.2.2 ++ L)) (fun s => rs.length - s.1) (0, G, rs, A0) ⟨rfl, rfl, rfl, trivial⟩ ⟨Nat.zero_le _, VLe.refl _, rfl, hal, ⟨ho0, hv.aft⟩, RnF.nil, hK⟩ ?_
 rintro ⟨i, G1, rs1, A1⟩ g w ⟨hi, hG1, hr1, hl1, ho, hnf, hK⟩
 simp only at hi hG1 hr1 hl1 ho hnf hK
 have hln : rs1.length = rs.length := by rw [← rg_len, hr1, rg_len]
 refine sq <| rg <| ?_
 refine vl (lt rfl rfl) <| nl <| thn <| sq <| ?_
 refine cdP rfl (fun hc => ?_) fun hc => ?_
 ·have hi' : i < rs1.length := by simp only at hc; omega
  have hx := ho.at hi'
  have hxl := hl1 _ (List.getElem_mem hi')
  refine sk <| thn <| sq <| bk <| sq <| rg <| ?_
  refine vl (mI rfl) <| vl (aI rfl) <| nl <| thn <| rg <| vl mv <| vl (mI rfl) <| vl mv <| vl (mI rfl) <| vl (ixn underlying25 Ty.s98 rfl ho.os.slw rfl hi') <| vl (fe underlying98 rfl Ty.z22 rfl ho.os.slw om) <| vl (ldC Ty.o22 rfl (ho.cell hK hi' 2 rfl)) <| ?_
  refine cl call95 rfl (clone_c hK hx om) ?_
  rintro v2 w ⟨A2, ho2, hK⟩
  obtain ⟨G2, hG2, hx2, hxn, hxb, hK⟩ := K.pubOF hK ho2 hG1
  refine vl (ixn underlying25 Ty.s98 rfl ho.os.slw rfl hi') <| vl (fe underlying98 rfl Ty.z22 rfl ho.os.slw om) <| ?_
  refine osSetC hK ho.os (i := i * 3 + 2) om Ty.i22 rfl rfl rfl hx2.1.one fun A3 w ho3 hK => ?_
  refine nl <| bkn <| thn <| rg <| vl (ad rfl rfl) <| vl (mI rfl) <| nl <| thn <| ?_
  refine ⟨(i + 1, G2, rs1.set i (rs1[i].1, rs1[i].2.1, v2, rs1[i].2.2.2), A3), ⟨rfl, rfl, rfl, trivial⟩, ⟨by simp only; omega, hG1.trans hG2, by simp only; exact (rgl_same hi' (y := (rs1[i].1, rs1[i].2.1, v2, rs1[i].2.2.2)) rfl).trans hr1, ?_, (ho.mono hG2).put hi' (by omega) rfl hx2 ho3, ?_, hK⟩, by simp only; omega⟩
  ·intro x hm
   rcases List.mem_or_eq_of_mem_set hm with h1 | rfl
   ·exact hl1 x h1
   ·exact hxl
  ·simp only
   rw [take_set_succ hi']
   exact hnf.snoc (x := (rs1[i].1, rs1[i].2.1, v2, rs1[i].2.2.2)) hxn hG2 hxb
 ·have hi' : i = rs.length := by simp only at hc; omega
  refine ex <| the <| the <| bkh <| thn <| sq <| rg <| ?_
  refine vl mv <| vl asg <| nl <| thn <| rt <| p1r (a := _) rfl <| ?_
  rw [List.take_of_length_le (by omega)] at hnf
  exact ⟨G1, rs1, A1, hG1, hr1, ho, hnf, hK⟩
theorem copyRingF_v (hK : K e w G L) (hv : RngS G v rs) (hok : RgOk (rgl rs)) :
  Ret prog 91 #[v] w (fun r w' => ∃ G' rs', VLe G G' ∧ rgl rs' = rgl rs ∧ RngS G' r rs' ∧ RgNew 98 3 G G' r rs' ∧ K e w' G' L) :=
 (copyRingF_c hK hv hok).mono fun _ _ ⟨_, rs', _, h1, h2, h3, h5, h4⟩ => let ⟨G', g1, g2, g4, g3⟩ := h3.pubF h5 h4 h1; ⟨G', rs', h1.trans g1, h2, g2, g4, g3⟩
theorem takeF_c {F : FuncId} {cap : List Value} {o : Option (List Nd)} {b t : Nat} (hf : ∀ args w, (callFunc F args).run prog w = .ok (.enter F args) w) (hK : K e w G ((b, row (ints xs) t) :: L)) (hxs : Nat.ble xs.length 1000 = true) (hv : RngS G v rs)
  (hp : ∀ (G' : View) (sb : Nat) (v' : Value) (rs' : List Rn) (A : Own) (w : World), VLe G G' → RgSafe (rgl rs) → (∀ x ∈ xs, Pt x) → rgl rs' = rgl rs → RnF 3 G G' rs' → OR G' 98 v' rs' A → K e w G' ((sb, row [v'] 206) :: (A ++ ((b, row (ints xs) t) :: L))) →
   Ret prog F ([Value.pointer (some ⟨sb, 0, none⟩)] ++ cap).toArray w (StpF e G G' 98 3 206 sb ((b, row (ints xs) t) :: L) o)) :
  Ret prog 202 #[v, .func (.func F) #[] cap.toArray, .slice (some ⟨b, 0, none⟩) xs.length xs.length] w (fun r w' => ∃ G', VLe G G' ∧ RgF 98 3 G G' r (tk (rgl rs) (∀ x ∈ xs, Pt x) o) ∧ K e w' G' L) := by
 refine enter2 (args := [v, .func (.func F) #[] cap.toArray, .slice (some ⟨b, 0, none⟩) xs.length xs.length]) func202 rfl rfl rfl rfl ?_
 refine sq <| rg <| ?_
 refine vl asg <| vl (aB rfl) <| nl <| thn <| sq <| sq <| rg <| vl mv <| ?_
 refine cl call83 rfl (implRingSafe_c hK hv) ?_
 rintro _ w ⟨rfl, hK⟩
 refine vl (ntB rfl) <| vl (mB rfl) <| ?_
 refine spl (t := 12) rfl (fun h1 => ?_) fun h1 => ?_
 ·have h1' := not_dec (Eq.mp (Bool.not_eq_true' _) h1)
  refine gn rfl <| gn rfl <| gn rfl <| vl (pk rfl) <| nl <| thn <| ?_
  refine cdt rfl ?_
  refine sq <| rg <| ?_
  refine vl asg <| vl (aB rfl) <| nl <| thn <| rt <| thr <| p2r (a := _) (b := .bool _) rfl rfl <| ?_
  rw [tk_no fun h => h1' h.1]
  exact ⟨_, VLe.refl _, ⟨_, [], rfl, RngS.lit, rfl, RgNew.empty SlW.nil0⟩, hK.drop1⟩
 ·have hsf := of_dec (Eq.mp (Bool.not_eq_false' _) h1)
  have hok := hsf.1
  refine gy rfl <| vl mv <| gy rfl <| ?_
  refine cl call136 rfl (positions_o hK hxs) ?_
  rintro _ w ⟨rfl, hK⟩
  refine gy rfl <| vl (ntB rfl) <| vl (pk rfl) <| nl <| thn <| ?_
  refine cdB rfl (fun h2 => ?_) fun h2 => ?_
  ·have h2' := not_dec (Eq.mp (Bool.not_eq_true' _) h2)
   refine sq <| rg <| ?_
   refine vl asg <| vl (aB rfl) <| nl <| thn <| rt <| thr <| p2r (a := _) (b := .bool _) rfl rfl <| ?_
   rw [tk_no fun h => h2' h.2]
   exact ⟨_, VLe.refl _, ⟨_, [], rfl, RngS.lit, rfl, RgNew.empty SlW.nil0⟩, hK.drop1⟩
  ·have hps := of_dec (Eq.mp (Bool.not_eq_false' _) h2)
   refine sk <| thn <| sq <| rg <| ?_
   refine vl mv <| ?_
   refine cl call91 rfl (copyRingF_c hK hv hok) ?_
   rintro v1 w ⟨G1, rs1, A1, hG1, hr1, ho, hnf, hK⟩
   refine vl (bd [(0, _)] Ty.p206 Ty.i206 rfl ⟨⟨rfl, one_cells ho.os.one⟩, trivial⟩ rfl) <| ?_
   refine bx hK rfl rfl ?_
   intro b20 w hK
   refine vl asg <| nl <| thn <| sq <| sq <| rg <| vl mv <| vl mv <| ?_
   refine cf (cap := cap) (hf) rfl rfl (hp G1 b20 v1 rs1 A1 w hG1 hsf hps hr1 hnf ho hK) ?_
   rintro r w hst
   rcases hst with ⟨rfl, hoo, hK⟩ | ⟨G2, v2, rs2, A2, rfl, hoo, hG2, ho2, hnf2, hK⟩
   ·skip
    refine vl (ntB rfl) <| nl <| thn <| ?_
    refine cdB rfl (fun h3 => ?_) fun h3 => ?_
    ·refine sq <| rg <| ?_
     refine vl mv <| ?_
     refine cl call91 rfl (copyRingF_v hK (hv.mono hG1) hok) ?_
     rintro v3 w ⟨G3, rs3, hG3, hr3, hv3, hN3, hK⟩
     refine vl asg <| vl (aB rfl) <| nl <| thn <| rt <| thr <| p2r (a := _) (b := .bool _) rfl rfl <| ?_
     refine ⟨G3, hG1.trans hG3, ?_, hK.drop1⟩
     have hfin := tk_ot (r := rgl rs) (o := o) ⟨hsf, hps⟩
     rw [hoo] at hfin
     rw [hoo]
     exact RgF.to hfin hv3 hr3 (hN3.older hG1)
    ·simp at h3
   ·skip
    refine vl (ntB rfl) <| nl <| thn <| ?_
    refine cdB rfl (fun h3 => ?_) fun h3 => ?_
    ·simp at h3
    ·have _ := trivial
     refine sk <| thn <| sq <| rg <| ?_
     refine vl mv <| vl (nc rfl) <| vl (fa underlying206 rfl Ty.z25 rfl) <| vl (ldO hK Ty.o25 0 rfl rfl rfl) <| vl asg <| vl (aB rfl) <| nl <| thn <| rt <| p2r (a := _) (b := .bool _) rfl rfl <| ?_
     obtain ⟨G3, hG3, hv3, hN3, hK⟩ := ho2.pubF hnf2 (K.drop1 hK) (hG1.trans hG2)
     refine ⟨G3, (hG1.trans hG2).trans hG3, ?_, hK.drop1⟩
     have hfin := tk_ot (r := rgl rs) (o := o) ⟨hsf, hps⟩
     rw [hoo] at hfin
     rw [hoo]
     exact RgF.to hfin hv3 rfl hN3
end
end Go.Proofs.YtmgggljicpmndaaGreatDoor
