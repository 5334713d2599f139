/- Contracts of the functions that copy, measure and compare worlds. Conditions: those that each row states. -/
import Derived.Test.YtbkfnnifkdgbkaaWo
import Derived.Test.YtbkfnnifkdgbkaaSe
import Derived.Test.YtbkfnnifkdgbkaaWm
namespace Go.Proofs.Ytbkfnnifkdgbkaa
open Go Go.Ro

section
variable {e w : World} {G : View} {L A : Own} {v u t t2 : Value} {xs ys : List Int} {ls ms : List Ls} {rs qs : List Rn} {zs ts : List It} {W W' : Wv} {wd wd' : Wd} {n m k : Int}

/-- what a world measures at most -/
def WdL (wd : Wd) : Prop := wd.ring.length ≤ 1048576 ∧ (∀ x ∈ wd.ring, x.2.2.length ≤ 1048576) ∧ wd.leases.length ≤ 1048576 ∧ wd.items.length ≤ 1048576 ∧ wd.scan.2.length ≤ 1048576 ∧ wd.since.length ≤ 1048576
theorem eqNode_c (hK : K e w G L) {x y : Rn} (hx : IntS G x.2.2.1 x.2.2.2) (hy : IntS G y.2.2.1 y.2.2.2) : Ret Try.prog 34 #[.agg (rc x).toArray, .agg (rc y).toArray] w (fun r w' => r = .bool (dec (nd x = nd y)) ∧ K e w' G L) := by
 refine enter1 (args := [.agg (rc x).toArray, .agg (rc y).toArray]) Try.func34 rfl rfl rfl rfl ?_
 refine sq <| rg <| ?_
 refine bx hK rfl rfl ?_
 intro b2 w hK
 refine bx hK rfl rfl ?_
 intro b3 w hK
 refine vl (aB rfl) <| nl <| thn <| sq <| sq <| rg <| vl (fa Try.underlying55 rfl Ty.z3 rfl) <| vl (ldO hK Ty.o3 1 rfl rfl rfl) <| vl (fa Try.underlying55 rfl Ty.z3 rfl) <| vl (ldO hK Ty.o3 0 rfl rfl rfl) <| vl (ne rfl rfl) <| nl <| thn <| ?_
 refine cdP rfl (fun h1 => ?_) (fun h1 => ?_)
 ·refine sq <| rg <| ?_
  refine vl (aB rfl) <| nl <| thn <| rt <| thr <| p1r (a := .bool _) rfl <| ?_
  exact ⟨by rw [dec_f fun h => h1 (congrArg (fun n : Nd => n.1) h)], hK.drop1.drop1⟩
 ·refine sk <| thn <| sq <| sq <| rg <| ?_
  refine vl (fa Try.underlying55 rfl Ty.z3 rfl) <| vl (ldO hK Ty.o3 1 rfl rfl rfl) <| vl (fa Try.underlying55 rfl Ty.z3 rfl) <| vl (ldO hK Ty.o3 0 rfl rfl rfl) <| vl (ne rfl rfl) <| nl <| thn <| ?_
  refine cdP rfl (fun h2 => ?_) (fun h2 => ?_)
  ·refine sq <| rg <| ?_
   refine vl (aB rfl) <| nl <| thn <| rt <| thr <| p1r (a := .bool _) rfl <| ?_
   exact ⟨by rw [dec_f fun h => h2 (congrArg (fun n : Nd => n.2.1) h)], hK.drop1.drop1⟩
  ·refine sk <| thn <| sq <| sq <| rg <| ?_
   refine vl (fa Try.underlying55 rfl Ty.z22 rfl) <| vl (ldO hK Ty.o22 1 rfl rfl rfl) <| vl (fa Try.underlying55 rfl Ty.z22 rfl) <| vl (ldO hK Ty.o22 0 rfl rfl rfl) <| ?_
   refine cl Try.call8 rfl (eqIntS_c hK hx hy) ?_
   rintro _ w ⟨rfl, hK⟩
   refine vl (nt rfl) <| nl <| thn <| ?_
   refine cdP rfl (fun h3 => ?_) (fun h3 => ?_)
   ·refine sq <| rg <| ?_
    refine vl (aB rfl) <| nl <| thn <| rt <| thr <| p1r (a := .bool _) rfl <| ?_
    exact ⟨by rw [dec_f fun h => h3 (congrArg (fun n : Nd => n.2.2) h)], hK.drop1.drop1⟩
   ·refine sk <| thn <| sq <| rg <| ?_
    refine vl (aB rfl) <| nl <| thn <| rt <| p1r (a := .bool _) rfl <| ?_
    exact ⟨by rw [dec_t (nd_eq (Decidable.not_not.1 h1) (Decidable.not_not.1 h2) (Decidable.not_not.1 h3))], hK.drop1.drop1⟩
theorem eqItem_c (hK : K e w G L) {x y : It} : Ret Try.prog 36 #[.agg (ic x).toArray, .agg (ic y).toArray] w (fun r w' => r = .bool (dec (x = y)) ∧ K e w' G L) := by
 refine enter1 (args := [.agg (ic x).toArray, .agg (ic y).toArray]) Try.func36 rfl rfl rfl rfl ?_
 refine sq <| rg <| ?_
 refine bx hK rfl rfl ?_
 intro b2 w hK
 refine bx hK rfl rfl ?_
 intro b3 w hK
 refine vl (aB rfl) <| nl <| thn <| sq <| sq <| rg <| vl (fa Try.underlying61 rfl Ty.z3 rfl) <| vl (ldO hK Ty.o3 1 rfl rfl rfl) <| vl (fa Try.underlying61 rfl Ty.z3 rfl) <| vl (ldO hK Ty.o3 0 rfl rfl rfl) <| vl (ne rfl rfl) <| nl <| thn <| ?_
 refine cdP rfl (fun h1 => ?_) (fun h1 => ?_)
 ·refine sq <| rg <| ?_
  refine vl (aB rfl) <| nl <| thn <| rt <| thr <| p1r (a := .bool _) rfl <| ?_
  exact ⟨by rw [dec_f]; rintro rfl; exact h1 rfl, hK.drop1.drop1⟩
 ·refine sk <| thn <| sq <| sq <| rg <| ?_
  refine vl (fa Try.underlying61 rfl Ty.z3 rfl) <| vl (ldO hK Ty.o3 1 rfl rfl rfl) <| vl (fa Try.underlying61 rfl Ty.z3 rfl) <| vl (ldO hK Ty.o3 0 rfl rfl rfl) <| vl (ne rfl rfl) <| nl <| thn <| ?_
  refine cdP rfl (fun h2 => ?_) (fun h2 => ?_)
  ·refine sq <| rg <| ?_
   refine vl (aB rfl) <| nl <| thn <| rt <| thr <| p1r (a := .bool _) rfl <| ?_
   exact ⟨by rw [dec_f]; rintro rfl; exact h2 rfl, hK.drop1.drop1⟩
  ·refine sk <| thn <| sq <| rg <| ?_
   refine vl (aB rfl) <| nl <| thn <| rt <| p1r (a := .bool _) rfl <| ?_
   exact ⟨by rw [dec_t (Prod.ext (Decidable.not_not.1 h1) (Decidable.not_not.1 h2))], hK.drop1.drop1⟩
theorem eqNodeS_c (hK : K e w G L) (hv : RngS G v rs) (hu : RngS G u qs) : Ret Try.prog 17 #[v, u] w (fun r w' => r = .bool (dec (rgl rs = rgl qs)) ∧ K e w' G L) := by
 have hs := hv.sl
 have hs2 := hu.sl
 have hle := hs.le
 refine enter1 (args := [v, u]) Try.func17 rfl rfl rfl rfl ?_
 refine sq <| rg <| ?_
 refine vl (aB rfl) <| nl <| thn <| sq <| sq <| rg <| vl mv <| vl (ln Try.underlying23 rfl hs.len) <| vl mv <| vl (ln Try.underlying23 rfl hs2.len) <| vl (ne rfl rfl) <| nl <| thn <| ?_
 refine cdP rfl (fun h0 => ?_) (fun h0 => ?_)
 ·refine sq <| rg <| ?_
  refine vl (aB rfl) <| nl <| thn <| rt <| thr <| p1r (a := .bool _) rfl <| ?_
  exact ⟨by rw [dec_f fun h => h0 (by have := congrArg List.length h; rw [rg_len, rg_len] at this; omega)], hK⟩
 ·have hln : rs.length = qs.length := by omega
  refine sk <| thn <| sq <| sq <| rg <| ?_
  refine vl (aI rfl) <| nl <| thn <| bk <| ?_
  refine lp (σ := Nat) (fun i => [(0, v), (1, u), (5, .int .i64 (i : Int))]) (fun i w => i ≤ rs.length ∧ rgl (rs.take i) = rgl (qs.take i) ∧ K e w G L) (fun i => rs.length - i) 0 ⟨rfl, rfl, rfl, trivial⟩ ⟨Nat.zero_le _, rfl, hK⟩ ?_
  rintro i g w ⟨hi, ha, hK⟩
  refine sq <| sq <| rg <| ?_
  refine vl (mI rfl) <| vl mv <| vl (ln Try.underlying23 rfl hs.len) <| vl (lt rfl rfl) <| nl <| thn <| ?_
  refine cdP rfl (fun hc => ?_) (fun hc => ?_)
  ·have hi' : i < rs.length := by omega
   have hi2 : i < qs.length := by omega
   refine sk <| thn <| sq <| bk <| sq <| ?_
   refine rgq (fun w => K _ w _ _) Ty.mixed kr (hK.drawn _) ?_
   refine qv (fun w hK => mv) <| ?_; refine qv (fun w hK => (mI rfl)) <| ?_; refine qv (fun w hK => (ixn Try.underlying23 Ty.s55 rfl hs.1 rfl om)) <| ?_; refine qv (fun w hK => (lsF hK Ty.a55 Ty.s55 rfl hs om)) <| ?_; refine qv (fun w hK => mv) <| ?_; refine qv (fun w hK => (mI rfl)) <| ?_; refine qv (fun w hK => (ixn Try.underlying23 Ty.s55 rfl hs2.1 rfl om)) <| ?_; refine qv (fun w hK => (lsF hK Ty.a55 Ty.s55 rfl hs2 om)) <| ?_
   refine qcl Try.call34 rfl (fun w hK => eqNode_c hK (hv.at hi') (hu.at hi2)) ?_
   refine qv (fun w hK => (ntB rfl)) <| ?_; refine qn <| ?_
   intro w hK
   refine thn <| ?_
   refine cdB rfl (fun h1 => ?_) (fun h1 => ?_)
   ·have h1' := not_dec (Eq.mp (Bool.not_eq_true' _) h1)
    refine sq <| rg <| ?_
    refine vl (aB rfl) <| nl <| thn <| rt <| bkr <| thr <| thr <| bkr <| thr <| p1r (a := .bool _) rfl <| ?_
    exact ⟨by rw [dec_f fun h => h1' (by rw [← rg_get hi', ← rg_get hi2]; simp only [h])], hK⟩
   ·have h1' := of_dec (Eq.mp (Bool.not_eq_false' _) h1)
    refine sk <| bkn <| thn <| rg <| ?_
    refine vl (mI rfl) <| vl (ad rfl rfl) <| vl (aI rfl) <| nl <| thn <| ?_
    exact ⟨i + 1, ⟨rfl, rfl, rfl, trivial⟩, ⟨hi', by rw [rgl_take_succ hi', rgl_take_succ hi2, ha, h1'], hK⟩, by omega⟩
  ·have hi' : i = rs.length := by omega
   subst hi'
   rw [List.take_length, hln, List.take_length] at ha
   refine ex <| the <| the <| bkh <| thn <| sq <| rg <| ?_
   refine vl (aB rfl) <| nl <| thn <| rt <| p1r (a := .bool _) rfl <| ?_
   exact ⟨by rw [dec_t ha], hK⟩

theorem eqItemS_c (hK : K e w G L) (hv : ItS G v zs) (hu : ItS G u ts) : Ret Try.prog 19 #[v, u] w (fun r w' => r = .bool (dec (zs = ts)) ∧ K e w' G L) := by
 have hle := hv.le
 refine enter1 (args := [v, u]) Try.func19 rfl rfl rfl rfl ?_
 refine sq <| rg <| ?_
 refine vl (aB rfl) <| nl <| thn <| sq <| sq <| rg <| vl mv <| vl (ln Try.underlying25 rfl hv.len) <| vl mv <| vl (ln Try.underlying25 rfl hu.len) <| vl (ne rfl rfl) <| nl <| thn <| ?_
 refine cdP rfl (fun h0 => ?_) (fun h0 => ?_)
 ·refine sq <| rg <| ?_
  refine vl (aB rfl) <| nl <| thn <| rt <| thr <| p1r (a := .bool _) rfl <| ?_
  exact ⟨by rw [dec_f fun h => h0 (by have := congrArg List.length h; omega)], hK⟩
 ·have hln : zs.length = ts.length := by omega
  refine sk <| thn <| sq <| sq <| rg <| ?_
  refine vl (aI rfl) <| nl <| thn <| bk <| ?_
  refine lp (σ := Nat) (fun i => [(0, v), (1, u), (5, .int .i64 (i : Int))]) (fun i w => i ≤ zs.length ∧ zs.take i = ts.take i ∧ K e w G L) (fun i => zs.length - i) 0 ⟨rfl, rfl, rfl, trivial⟩ ⟨Nat.zero_le _, rfl, hK⟩ ?_
  rintro i g w ⟨hi, ha, hK⟩
  refine sq <| sq <| rg <| ?_
  refine vl (mI rfl) <| vl mv <| vl (ln Try.underlying25 rfl hv.len) <| vl (lt rfl rfl) <| nl <| thn <| ?_
  refine cdP rfl (fun hc => ?_) (fun hc => ?_)
  ·have hi' : i < zs.length := by omega
   have hi2 : i < ts.length := by omega
   refine sk <| thn <| sq <| bk <| sq <| ?_
   refine rgq (fun w => K _ w _ _) Ty.mixed kr (hK.drawn _) ?_
   refine qv (fun w hK => mv) <| ?_; refine qv (fun w hK => (mI rfl)) <| ?_; refine qv (fun w hK => (ixn Try.underlying25 Ty.s61 rfl hv.1 rfl om)) <| ?_; refine qv (fun w hK => (lsF hK Ty.a61 Ty.s61 rfl hv om)) <| ?_; refine qv (fun w hK => mv) <| ?_; refine qv (fun w hK => (mI rfl)) <| ?_; refine qv (fun w hK => (ixn Try.underlying25 Ty.s61 rfl hu.1 rfl om)) <| ?_; refine qv (fun w hK => (lsF hK Ty.a61 Ty.s61 rfl hu om)) <| ?_
   refine qcl Try.call36 rfl (fun w hK => eqItem_c hK) ?_
   refine qv (fun w hK => (ntB rfl)) <| ?_; refine qn <| ?_
   intro w hK
   refine thn <| ?_
   refine cdB rfl (fun h1 => ?_) (fun h1 => ?_)
   ·have h1' := not_dec (Eq.mp (Bool.not_eq_true' _) h1)
    refine sq <| rg <| ?_
    refine vl (aB rfl) <| nl <| thn <| rt <| bkr <| thr <| thr <| bkr <| thr <| p1r (a := .bool _) rfl <| ?_
    exact ⟨by rw [dec_f fun h => h1' (by simp only [h])], hK⟩
   ·have h1' := of_dec (Eq.mp (Bool.not_eq_false' _) h1)
    refine sk <| bkn <| thn <| rg <| ?_
    refine vl (mI rfl) <| vl (ad rfl rfl) <| vl (aI rfl) <| nl <| thn <| ?_
    exact ⟨i + 1, ⟨rfl, rfl, rfl, trivial⟩, ⟨hi', by rw [List.take_succ_eq_append_getElem hi', List.take_succ_eq_append_getElem hi2, ha, h1'], hK⟩, by omega⟩
  ·have hi' : i = zs.length := by omega
   subst hi'
   rw [List.take_length, hln, List.take_length] at ha
   refine ex <| the <| the <| bkh <| thn <| sq <| rg <| ?_
   refine vl (aB rfl) <| nl <| thn <| rt <| p1r (a := .bool _) rfl <| ?_
   exact ⟨by rw [dec_t ha], hK⟩

theorem eqWorld_c (hK : K e w G L) (hW : WdS G lc W wd rs) (hW' : WdS G lc W' wd' qs) : Ret Try.prog 7 #[.agg (wc W).toArray, .agg (wc W').toArray] w (fun r w' => r = .bool (dec (wd = wd')) ∧ K e w' G L) := by
 have r1 := hW.ring
 have r2 := hW'.ring
 have l1 := hW.leases
 have l2 := hW'.leases
 have i1 := hW.items
 have i2 := hW'.items
 have t1 := hW.told
 have t2 := hW'.told
 have s1 := hW.since
 have s2 := hW'.since
 refine enter1 (args := [.agg (wc W).toArray, .agg (wc W').toArray]) Try.func7 rfl rfl rfl rfl ?_
 refine sq <| rg <| ?_
 refine bx hK rfl rfl ?_
 intro b2 w hK
 refine bx hK rfl rfl ?_
 intro b3 w hK
 refine vl (aB rfl) <| nl <| thn <| sq <| sq <| rg <| vl (fa Try.underlying29 rfl Ty.z3 rfl) <| vl (ldO hK Ty.o3 1 rfl rfl rfl) <| vl (fa Try.underlying29 rfl Ty.z3 rfl) <| vl (ldO hK Ty.o3 0 rfl rfl rfl) <| vl (ne rfl rfl) <| nl <| thn <| ?_
 refine cdP rfl (fun h1 => ?_) (fun h1 => ?_)
 ·refine sq <| rg <| ?_
  refine vl (aB rfl) <| nl <| thn <| rt <| thr <| p1r (a := .bool _) rfl <| ?_
  exact ⟨by rw [dec_f fun h => h1 (by rw [hW.now, hW'.now, h])], hK.drop1.drop1⟩
 ·have e1 : wd.now = wd'.now := by rw [← hW.now, ← hW'.now]; exact Decidable.not_not.1 h1
  refine sk <| thn <| sq <| sq <| rg <| ?_
  refine vl (fa Try.underlying29 rfl Ty.z23 rfl) <| vl (ldO hK Ty.o23 1 rfl rfl rfl) <| vl (fa Try.underlying29 rfl Ty.z23 rfl) <| vl (ldO hK Ty.o23 0 rfl rfl rfl) <| ?_
  refine cl Try.call17 rfl (eqNodeS_c hK r1 r2) ?_
  rintro _ w ⟨rfl, hK⟩
  refine vl (ntB rfl) <| nl <| thn <| ?_
  refine cdB rfl (fun h2 => ?_) (fun h2 => ?_)
  ·have h2' := not_dec (Eq.mp (Bool.not_eq_true' _) h2)
   refine sq <| rg <| ?_
   refine vl (aB rfl) <| nl <| thn <| rt <| thr <| p1r (a := .bool _) rfl <| ?_
   exact ⟨by rw [dec_f fun h => h2' (by rw [hW.rg, hW'.rg, h])], hK.drop1.drop1⟩
  ·have e2 : wd.ring = wd'.ring := by rw [← hW.rg, ← hW'.rg]; exact of_dec (Eq.mp (Bool.not_eq_false' _) h2)
   refine sk <| thn <| sq <| sq <| rg <| ?_
   refine vl (fa Try.underlying29 rfl Ty.z24 rfl) <| vl (ldO hK Ty.o24 1 rfl rfl rfl) <| vl (fa Try.underlying29 rfl Ty.z24 rfl) <| vl (ldO hK Ty.o24 0 rfl rfl rfl) <| ?_
   refine cl Try.call18 rfl (eqLeaseS_c hK l1 l2) ?_
   rintro _ w ⟨rfl, hK⟩
   refine vl (nt rfl) <| nl <| thn <| ?_
   refine cdP rfl (fun h3 => ?_) (fun h3 => ?_)
   ·refine sq <| rg <| ?_
    refine vl (aB rfl) <| nl <| thn <| rt <| thr <| p1r (a := .bool _) rfl <| ?_
    exact ⟨by rw [dec_f fun h => h3 (congrArg Wd.leases h)], hK.drop1.drop1⟩
   ·have e3 := Decidable.not_not.1 h3
    refine sk <| thn <| sq <| sq <| rg <| ?_
    refine vl (fa Try.underlying29 rfl Ty.z25 rfl) <| vl (ldO hK Ty.o25 1 rfl rfl rfl) <| vl (fa Try.underlying29 rfl Ty.z25 rfl) <| vl (ldO hK Ty.o25 0 rfl rfl rfl) <| ?_
    refine cl Try.call19 rfl (eqItemS_c hK i1 i2) ?_
    rintro _ w ⟨rfl, hK⟩
    refine vl (ntB rfl) <| nl <| thn <| ?_
    refine cdB rfl (fun h4 => ?_) (fun h4 => ?_)
    ·have h4' := not_dec (Eq.mp (Bool.not_eq_true' _) h4)
     refine sq <| rg <| ?_
     refine vl (aB rfl) <| nl <| thn <| rt <| thr <| p1r (a := .bool _) rfl <| ?_
     exact ⟨by rw [dec_f fun h => h4' (congrArg Wd.items h)], hK.drop1.drop1⟩
    ·have e4 := of_dec (Eq.mp (Bool.not_eq_false' _) h4)
     refine sk <| thn <| sq <| sq <| rg <| ?_
     refine vl (fa Try.underlying29 rfl Ty.z27 rfl) <| vl (lsP (u := [.int .i64 W.next, W.t]) hK Ty.a27 Ty.s27 1 rfl rfl rfl rfl) <| vl (fa Try.underlying29 rfl Ty.z27 rfl) <| vl (lsP (u := [.int .i64 W'.next, W'.t]) hK Ty.a27 Ty.s27 0 rfl rfl rfl rfl) <| ?_
     refine cl Try.call20 rfl (eqScan_c hK t1 t2) ?_
     rintro _ w ⟨rfl, hK⟩
     refine vl (nt rfl) <| nl <| thn <| ?_
     refine cdP rfl (fun h5 => ?_) (fun h5 => ?_)
     ·refine sq <| rg <| ?_
      refine vl (aB rfl) <| nl <| thn <| rt <| thr <| p1r (a := .bool _) rfl <| ?_
      exact ⟨by rw [dec_f fun h => h5 (by rw [hW.next, hW'.next, h]; exact ⟨rfl, rfl⟩)], hK.drop1.drop1⟩
     ·have h5' := Decidable.not_not.1 h5
      have e5 : wd.scan = wd'.scan := Prod.ext (by rw [← hW.next, ← hW'.next]; exact h5'.1) h5'.2
      refine sk <| thn <| sq <| sq <| rg <| ?_
      refine vl (fa Try.underlying29 rfl Ty.z22 rfl) <| vl (ldO hK Ty.o22 1 rfl rfl rfl) <| vl (fa Try.underlying29 rfl Ty.z22 rfl) <| vl (ldO hK Ty.o22 0 rfl rfl rfl) <| ?_
      refine cl Try.call8 rfl (eqIntS_c hK s1 s2) ?_
      rintro _ w ⟨rfl, hK⟩
      refine vl (nt rfl) <| nl <| thn <| ?_
      refine cdP rfl (fun h6 => ?_) (fun h6 => ?_)
      ·refine sq <| rg <| ?_
       refine vl (aB rfl) <| nl <| thn <| rt <| thr <| p1r (a := .bool _) rfl <| ?_
       exact ⟨by rw [dec_f fun h => h6 (congrArg Wd.since h)], hK.drop1.drop1⟩
      ·refine sk <| thn <| sq <| rg <| ?_
       refine vl (aB rfl) <| nl <| thn <| rt <| p1r (a := .bool _) rfl <| ?_
       exact ⟨by rw [dec_t (wd_eq e1 e2 e3 e4 e5 (Decidable.not_not.1 h6))], hK.drop1.drop1⟩
end
end Go.Proofs.Ytbkfnnifkdgbkaa