/- Contracts of the functions that hold worlds against each other. Conditions: those that each row states. -/
import Derived.Test.YtoaeogpnbpaojaaGreatWn
import Derived.Test.YtoaeogpnbpaojaaGreatSl
namespace Go.Proofs.YtoaeogpnbpaojaaGreat
open Go Go.Ro

section
variable {e w : World} {G : View} {L A : Own} {v u : Value} {xs ys : List Int} {ls ms : List Ls} {rs qs : List Rn} {zs ts : List It} {W W' : Wv} {wd wd' : Wd} {a b k id other : Int} {i j bk o : Nat}

theorem sameNode_c (hK : K e w G L) {x y : Rn} (hx : IntS G x.2.2.1 x.2.2.2) (hy : IntS G y.2.2.1 y.2.2.2) : Ret Tryz.prog 94 #[.agg (rc x).toArray, .agg (rc y).toArray] w (fun r w' => r = .bool (dec (nd x = nd y)) ∧ K e w' G L) := by
 refine enter1 (args := [.agg (rc x).toArray, .agg (rc y).toArray]) Tryz.func94 rfl rfl rfl rfl ?_
 refine sq <| rg <| ?_
 refine bx hK rfl rfl ?_
 intro b2 w hK
 refine bx hK rfl rfl ?_
 intro b3 w hK
 refine vl (aB rfl) <| nl <| thn <| sq <| rg <| vl (fa Tryz.underlying106 rfl Ty.z3 rfl) <| vl (ldO hK Ty.o3 1 rfl rfl rfl) <| vl (fa Tryz.underlying106 rfl Ty.z3 rfl) <| vl (ldO hK Ty.o3 0 rfl rfl rfl) <| vl (eq rfl rfl) <| vl (mB rfl) <| ?_
 refine splP (t := 10) rfl (fun h1 => ?_) (fun h1 => ?_)
 ·refine gy rfl <| vl (fa Tryz.underlying106 rfl Ty.z3 rfl) <| gy rfl <| vl (ldO hK Ty.o3 1 rfl rfl rfl) <| gy rfl <| vl (fa Tryz.underlying106 rfl Ty.z3 rfl) <| gy rfl <| vl (ldO hK Ty.o3 0 rfl rfl rfl) <| gy rfl <| vl (eq rfl rfl) <| vl (pk rfl) <| vl (mB rfl) <| ?_
  refine splP (t := 17) rfl (fun h2 => ?_) (fun h2 => ?_)
  ·refine gy rfl <| vl (fa Tryz.underlying106 rfl Ty.z26 rfl) <| gy rfl <| vl (ldO hK Ty.o26 1 rfl rfl rfl) <| gy rfl <| vl (fa Tryz.underlying106 rfl Ty.z26 rfl) <| gy rfl <| vl (ldO hK Ty.o26 0 rfl rfl rfl) <| gy rfl <| ?_
   refine cl Tryz.call12 rfl (sameInts_c hK (by assumption) (by assumption)) ?_
   rintro _ w ⟨rfl, hK⟩
   refine vl (pk rfl) <| vl (aB rfl) <| nl <| thn <| rt <| p1r (a := .bool _) rfl <| ?_
   refine ⟨?_, hK.drop1.drop1⟩
   exact congrArg Value.bool ((dec_dec (p := x.2.2.2 = y.2.2.2)).symm.trans (dec_congr ⟨fun h => nd_eq h1 h2 h, fun h => congrArg (fun n : Nd => n.2.2) h⟩))
  ·refine gn rfl <| gn rfl <| gn rfl <| gn rfl <| gn rfl <| vl (pk rfl) <| vl (aB rfl) <| nl <| thn <| rt <| p1r (a := .bool _) rfl <| ?_
   exact ⟨by rw [dec_f fun h => h2 (congrArg (fun n : Nd => n.2.1) h)], hK.drop1.drop1⟩
 ·refine gn rfl <| gn rfl <| gn rfl <| gn rfl <| gn rfl <| vl (pk rfl) <| vl (mB rfl) <| gn rfl <| gn rfl <| gn rfl <| gn rfl <| gn rfl <| vl (pk rfl) <| vl (aB rfl) <| nl <| thn <| ?_
  refine rt <| p1r (a := .bool _) rfl <| ?_
  exact ⟨by rw [dec_f fun h => h1 (congrArg (fun n : Nd => n.1) h)], hK.drop1.drop1⟩

theorem sameRing_c (hK : K e w G L) (hv : RngS G v rs) (hu : RngS G u qs) : Ret Tryz.prog 30 #[v, u] w (fun r w' => r = .bool (dec (rgl rs = rgl qs)) ∧ K e w' G L) := by
 have hs := hv.sl
 have hs2 := hu.sl
 have hle := hs.le
 refine enter1 (args := [v, u]) Tryz.func30 rfl rfl rfl rfl ?_
 refine sq <| rg <| ?_
 refine vl (aB rfl) <| nl <| thn <| sq <| sq <| rg <| vl mv <| vl (ln Tryz.underlying23 rfl hs.len) <| vl mv <| vl (ln Tryz.underlying23 rfl hs2.len) <| vl (ne rfl rfl) <| nl <| thn <| ?_
 refine cdP rfl (fun h0 => ?_) (fun h0 => ?_)
 ·refine sq <| rg <| ?_
  refine vl (aB rfl) <| nl <| thn <| rt <| thr <| p1r (a := .bool _) rfl <| ?_
  exact ⟨by rw [dec_f fun h => h0 (by have := congrArg List.length h; rw [rg_len, rg_len] at this; omega)], hK⟩
 ·have hln : rs.length = qs.length := by omega
  refine sk <| thn <| sq <| sq <| rg <| ?_
  refine vl (aI rfl) <| nl <| thn <| bk <| ?_
  refine lp (σ := Nat) (fun i => [(0, v), (1, u), (5, .int .i64 (i : Int))]) (fun i w => i ≤ rs.length ∧ rgl (rs.take i) = rgl (qs.take i) ∧ K e w G L) (fun i => rs.length - i) 0 ⟨rfl, rfl, rfl, trivial⟩ ⟨Nat.zero_le _, rfl, hK⟩ ?_
  rintro i g w ⟨hi, ha, hK⟩
  refine sq <| sq <| rg <| ?_
  refine vl (mI rfl) <| vl mv <| vl (ln Tryz.underlying23 rfl hs.len) <| vl (lt rfl rfl) <| nl <| thn <| ?_
  refine cdP rfl (fun hc => ?_) (fun hc => ?_)
  ·have hi' : i < rs.length := by omega
   have hi2 : i < qs.length := by omega
   refine sk <| thn <| sq <| bk <| sq <| ?_
   refine rgq (fun w => K _ w _ _) Ty.mixed kr (hK.drawn _) ?_
   refine qv (fun w hK => mv) <| ?_; refine qv (fun w hK => (mI rfl)) <| ?_; refine qv (fun w hK => (ixn Tryz.underlying23 Ty.s106 rfl hs.1 rfl om)) <| ?_; refine qv (fun w hK => (lsF hK Ty.a106 Ty.s106 rfl hs om)) <| ?_; refine qv (fun w hK => mv) <| ?_; refine qv (fun w hK => (mI rfl)) <| ?_; refine qv (fun w hK => (ixn Tryz.underlying23 Ty.s106 rfl hs2.1 rfl om)) <| ?_; refine qv (fun w hK => (lsF hK Ty.a106 Ty.s106 rfl hs2 om)) <| ?_
   refine qcl Tryz.call94 rfl (fun w hK => sameNode_c hK (hv.at hi') (hu.at hi2)) ?_
   refine qv (fun w hK => (ntB rfl)) <| ?_; refine qn <| ?_
   intro w hK
   refine thn <| ?_
   refine cdB rfl (fun h1 => ?_) (fun h1 => ?_)
   ·have h1' := not_dec (Eq.mp (Bool.not_eq_true' _) h1)
    refine sq <| rg <| ?_
    refine vl (aB rfl) <| nl <| thn <| rt <| bkr <| thr <| thr <| bkr <| thr <| p1r (a := .bool _) rfl <| ?_
    exact ⟨by rw [dec_f fun h => h1' (by rw [← rg_get hi', ← rg_get hi2]; simp only [h])], hK⟩
   ·have h1' := of_dec (Eq.mp (Bool.not_eq_false' _) h1)
    refine sk <| bkn <| thn <| rg <| ?_
    refine vl (mI rfl) <| vl (ad rfl rfl) <| vl (aI rfl) <| nl <| thn <| ?_
    exact ⟨i + 1, ⟨rfl, rfl, rfl, trivial⟩, ⟨hi', by rw [rgl_take_succ hi', rgl_take_succ hi2, ha, h1'], hK⟩, by omega⟩
  ·have hi' : i = rs.length := by omega
   subst hi'
   rw [List.take_length, hln, List.take_length] at ha
   refine ex <| the <| the <| bkh <| thn <| sq <| rg <| ?_
   refine vl (aB rfl) <| nl <| thn <| rt <| p1r (a := .bool _) rfl <| ?_
   exact ⟨by rw [dec_t ha], hK⟩

theorem sameLeases_c (hK : K e w G L) (hv : LeaS G v ls) (hu : LeaS G u ms) : Ret Tryz.prog 31 #[v, u] w (fun r w' => r = .bool (dec (ls = ms)) ∧ K e w' G L) := by
 have hle := hv.le
 refine enter1 (args := [v, u]) Tryz.func31 rfl rfl rfl rfl ?_
 refine sq <| rg <| ?_
 refine vl (aB rfl) <| nl <| thn <| sq <| sq <| rg <| vl mv <| vl (ln Tryz.underlying24 rfl hv.len) <| vl mv <| vl (ln Tryz.underlying24 rfl hu.len) <| vl (ne rfl rfl) <| nl <| thn <| ?_
 refine cdP rfl (fun h0 => ?_) (fun h0 => ?_)
 ·refine sq <| rg <| ?_
  refine vl (aB rfl) <| nl <| thn <| rt <| thr <| p1r (a := .bool _) rfl <| ?_
  exact ⟨by rw [dec_f fun h => h0 (by have := congrArg List.length h; omega)], hK⟩
 ·have hln : ls.length = ms.length := by omega
  refine sk <| thn <| sq <| sq <| rg <| ?_
  refine vl (aI rfl) <| nl <| thn <| bk <| ?_
  refine lp (σ := Nat) (fun i => [(0, v), (1, u), (5, .int .i64 (i : Int))]) (fun i w => i ≤ ls.length ∧ ls.take i = ms.take i ∧ K e w G L) (fun i => ls.length - i) 0 ⟨rfl, rfl, rfl, trivial⟩ ⟨Nat.zero_le _, rfl, hK⟩ ?_
  rintro i g w ⟨hi, ha, hK⟩
  refine sq <| sq <| rg <| ?_
  refine vl (mI rfl) <| vl mv <| vl (ln Tryz.underlying24 rfl hv.len) <| vl (lt rfl rfl) <| nl <| thn <| ?_
  refine cdP rfl (fun hc => ?_) (fun hc => ?_)
  ·have hi' : i < ls.length := by omega
   have hi2 : i < ms.length := by omega
   refine sk <| thn <| sq <| bk <| sq <| ?_
   refine rgq (fun w => K _ w _ _) Ty.mixed kr (hK.drawn _) ?_
   refine qv (fun w hK => mv) <| ?_; refine qv (fun w hK => (mI rfl)) <| ?_; refine qv (fun w hK => (ixn Tryz.underlying24 Ty.s102 rfl hv.1 rfl om)) <| ?_; refine qv (fun w hK => (lsF hK Ty.a102 Ty.s102 rfl hv om)) <| ?_; refine qv (fun w hK => mv) <| ?_; refine qv (fun w hK => (mI rfl)) <| ?_; refine qv (fun w hK => (ixn Tryz.underlying24 Ty.s102 rfl hu.1 rfl om)) <| ?_; refine qv (fun w hK => (lsF hK Ty.a102 Ty.s102 rfl hu om)) <| ?_; refine qv (fun w hK => (neS3 Tryz.underlying102 Tryz.underlying3 Tryz.underlying3 Tryz.underlying3 (by decide) (by decide) (by decide) rfl rfl rfl kr kr rfl rfl)) <| ?_; refine qn <| ?_
   intro w hK
   refine thn <| ?_
   refine cdP rfl (fun h1 => ?_) (fun h1 => ?_)
   ·refine sq <| rg <| ?_
    refine vl (aB rfl) <| nl <| thn <| rt <| bkr <| thr <| thr <| bkr <| thr <| p1r (a := .bool _) rfl <| ?_
    exact ⟨by rw [dec_f fun h => h1 (by subst h; exact ⟨rfl, rfl, rfl⟩)], hK⟩
   ·have h1' := Decidable.not_not.1 h1
    refine sk <| bkn <| thn <| rg <| ?_
    refine vl (mI rfl) <| vl (ad rfl rfl) <| vl (aI rfl) <| nl <| thn <| ?_
    exact ⟨i + 1, ⟨rfl, rfl, rfl, trivial⟩, ⟨hi', by rw [List.take_succ_eq_append_getElem hi', List.take_succ_eq_append_getElem hi2, ha, show ls[i] = ms[i] from Prod.ext h1'.1 (Prod.ext h1'.2.1 h1'.2.2)], hK⟩, by omega⟩
  ·have hi' : i = ls.length := by omega
   subst hi'
   rw [List.take_length, hln, List.take_length] at ha
   refine ex <| the <| the <| bkh <| thn <| sq <| rg <| ?_
   refine vl (aB rfl) <| nl <| thn <| rt <| p1r (a := .bool _) rfl <| ?_
   exact ⟨by rw [dec_t ha], hK⟩

theorem sameItems_c (hK : K e w G L) (hv : ItS G v zs) (hu : ItS G u ts) : Ret Tryz.prog 10 #[v, u] w (fun r w' => r = .bool (dec (zs = ts)) ∧ K e w' G L) := by
 have hle := hv.le
 refine enter1 (args := [v, u]) Tryz.func10 rfl rfl rfl rfl ?_
 refine sq <| rg <| ?_
 refine vl (aB rfl) <| nl <| thn <| sq <| sq <| rg <| vl mv <| vl (ln Tryz.underlying25 rfl hv.len) <| vl mv <| vl (ln Tryz.underlying25 rfl hu.len) <| vl (ne rfl rfl) <| nl <| thn <| ?_
 refine cdP rfl (fun h0 => ?_) (fun h0 => ?_)
 ·refine sq <| rg <| ?_
  refine vl (aB rfl) <| nl <| thn <| rt <| thr <| p1r (a := .bool _) rfl <| ?_
  exact ⟨by rw [dec_f fun h => h0 (by have := congrArg List.length h; omega)], hK⟩
 ·have hln : zs.length = ts.length := by omega
  refine sk <| thn <| sq <| sq <| rg <| ?_
  refine vl (aI rfl) <| nl <| thn <| bk <| ?_
  refine lp (σ := Nat) (fun i => [(0, v), (1, u), (5, .int .i64 (i : Int))]) (fun i w => i ≤ zs.length ∧ zs.take i = ts.take i ∧ K e w G L) (fun i => zs.length - i) 0 ⟨rfl, rfl, rfl, trivial⟩ ⟨Nat.zero_le _, rfl, hK⟩ ?_
  rintro i g w ⟨hi, ha, hK⟩
  refine sq <| sq <| rg <| ?_
  refine vl (mI rfl) <| vl mv <| vl (ln Tryz.underlying25 rfl hv.len) <| vl (lt rfl rfl) <| nl <| thn <| ?_
  refine cdP rfl (fun hc => ?_) (fun hc => ?_)
  ·have hi' : i < zs.length := by omega
   have hi2 : i < ts.length := by omega
   refine sk <| thn <| sq <| bk <| sq <| ?_
   refine rgq (fun w => K _ w _ _) Ty.mixed kr (hK.drawn _) ?_
   refine qv (fun w hK => mv) <| ?_; refine qv (fun w hK => (mI rfl)) <| ?_; refine qv (fun w hK => (ixn Tryz.underlying25 Ty.s68 rfl hv.1 rfl om)) <| ?_; refine qv (fun w hK => (lsF hK Ty.a68 Ty.s68 rfl hv om)) <| ?_; refine qv (fun w hK => mv) <| ?_; refine qv (fun w hK => (mI rfl)) <| ?_; refine qv (fun w hK => (ixn Tryz.underlying25 Ty.s68 rfl hu.1 rfl om)) <| ?_; refine qv (fun w hK => (lsF hK Ty.a68 Ty.s68 rfl hu om)) <| ?_; refine qv (fun w hK => (neS2 Tryz.underlying68 Tryz.underlying3 Tryz.underlying3 (by decide) (by decide) rfl rfl kr kr rfl rfl)) <| ?_; refine qn <| ?_
   intro w hK
   refine thn <| ?_
   refine cdP rfl (fun h1 => ?_) (fun h1 => ?_)
   ·refine sq <| rg <| ?_
    refine vl (aB rfl) <| nl <| thn <| rt <| bkr <| thr <| thr <| bkr <| thr <| p1r (a := .bool _) rfl <| ?_
    exact ⟨by rw [dec_f fun h => h1 (by subst h; exact ⟨rfl, rfl⟩)], hK⟩
   ·have h1' := Decidable.not_not.1 h1
    refine sk <| bkn <| thn <| rg <| ?_
    refine vl (mI rfl) <| vl (ad rfl rfl) <| vl (aI rfl) <| nl <| thn <| ?_
    exact ⟨i + 1, ⟨rfl, rfl, rfl, trivial⟩, ⟨hi', by rw [List.take_succ_eq_append_getElem hi', List.take_succ_eq_append_getElem hi2, ha, show zs[i] = ts[i] from Prod.ext h1'.1 h1'.2], hK⟩, by omega⟩
  ·have hi' : i = zs.length := by omega
   subst hi'
   rw [List.take_length, hln, List.take_length] at ha
   refine ex <| the <| the <| bkh <| thn <| sq <| rg <| ?_
   refine vl (aB rfl) <| nl <| thn <| rt <| p1r (a := .bool _) rfl <| ?_
   exact ⟨by rw [dec_t ha], hK⟩

theorem sameWorld_c (hK : K e w G L) (hW : WdS G lc W wd rs) (hW' : WdS G lc W' wd' qs) : Ret Tryz.prog 8 #[.agg (wc W).toArray, .agg (wc W').toArray] w (fun r w' => r = .bool (dec (wd = wd')) ∧ K e w' G L) := by
 have r1 := hW.ring
 have r2 := hW'.ring
 have l1 := hW.leases
 have l2 := hW'.leases
 have i1 := hW.items
 have i2 := hW'.items
 have t1 := hW.told
 have t2 := hW'.told
 have s1 := hW.since
 have s2 := hW'.since
 refine enter1 (args := [.agg (wc W).toArray, .agg (wc W').toArray]) Tryz.func8 rfl rfl rfl rfl ?_
 refine sq <| rg <| ?_
 refine bx hK rfl rfl ?_
 intro b2 w hK
 refine bx hK rfl rfl ?_
 intro b3 w hK
 refine vl (aB rfl) <| nl <| thn <| sq <| rg <| vl (fa Tryz.underlying30 rfl Ty.z3 rfl) <| vl (ldO hK Ty.o3 1 rfl rfl rfl) <| vl (fa Tryz.underlying30 rfl Ty.z3 rfl) <| vl (ldO hK Ty.o3 0 rfl rfl rfl) <| vl (eq rfl rfl) <| vl (mB rfl) <| ?_
 refine splP (t := 10) rfl (fun h1 => ?_) (fun h1 => ?_)
 ·have e1 : wd.now = wd'.now := by rw [← hW.now, ← hW'.now]; exact h1
  refine gy rfl <| vl (fa Tryz.underlying30 rfl Ty.z23 rfl) <| gy rfl <| vl (ldO hK Ty.o23 1 rfl rfl rfl) <| gy rfl <| vl (fa Tryz.underlying30 rfl Ty.z23 rfl) <| gy rfl <| vl (ldO hK Ty.o23 0 rfl rfl rfl) <| gy rfl <| ?_
  refine cl Tryz.call30 rfl (sameRing_c hK r1 r2) ?_
  rintro _ w ⟨rfl, hK⟩
  refine vl (pk rfl) <| vl (mB rfl) <| ?_
  refine spl (t := 17) rfl (fun h2 => ?_) (fun h2 => ?_)
  ·have e2 : wd.ring = wd'.ring := by rw [← hW.rg, ← hW'.rg]; exact of_dec h2
   refine gy rfl <| vl (fa Tryz.underlying30 rfl Ty.z24 rfl) <| gy rfl <| vl (ldO hK Ty.o24 1 rfl rfl rfl) <| gy rfl <| vl (fa Tryz.underlying30 rfl Ty.z24 rfl) <| gy rfl <| vl (ldO hK Ty.o24 0 rfl rfl rfl) <| gy rfl <| ?_
   refine cl Tryz.call31 rfl (sameLeases_c hK l1 l2) ?_
   rintro _ w ⟨rfl, hK⟩
   refine vl (pk rfl) <| vl (mB rfl) <| ?_
   refine spl (t := 24) rfl (fun h3 => ?_) (fun h3 => ?_)
   ·have e3 := of_dec h3
    refine gy rfl <| vl (fa Tryz.underlying30 rfl Ty.z25 rfl) <| gy rfl <| vl (ldO hK Ty.o25 1 rfl rfl rfl) <| gy rfl <| vl (fa Tryz.underlying30 rfl Ty.z25 rfl) <| gy rfl <| vl (ldO hK Ty.o25 0 rfl rfl rfl) <| gy rfl <| ?_
    refine cl Tryz.call10 rfl (sameItems_c hK i1 i2) ?_
    rintro _ w ⟨rfl, hK⟩
    refine vl (pk rfl) <| vl (mB rfl) <| ?_
    refine spl (t := 31) rfl (fun h4 => ?_) (fun h4 => ?_)
    ·have e4 := of_dec h4
     refine gy rfl <| vl (fa Tryz.underlying30 rfl Ty.z28 rfl) <| gy rfl <| vl (lsP (u := [.int .i64 W.next, W.t]) hK Ty.a28 Ty.s28 1 rfl rfl rfl rfl) <| gy rfl <| vl (fa Tryz.underlying30 rfl Ty.z28 rfl) <| gy rfl <| vl (lsP (u := [.int .i64 W'.next, W'.t]) hK Ty.a28 Ty.s28 0 rfl rfl rfl rfl) <| gy rfl <| ?_
     refine cl Tryz.call11 rfl (sameScan_c hK t1 t2) ?_
     rintro _ w ⟨rfl, hK⟩
     refine vl (pk rfl) <| vl (mB rfl) <| ?_
     refine splP (t := 38) rfl (fun h5 => ?_) (fun h5 => ?_)
     ·have e5 : wd.scan = wd'.scan := Prod.ext (by rw [← hW.next, ← hW'.next]; exact h5.1) h5.2
      refine gy rfl <| vl (fa Tryz.underlying30 rfl Ty.z26 rfl) <| gy rfl <| vl (ldO hK Ty.o26 1 rfl rfl rfl) <| gy rfl <| vl (fa Tryz.underlying30 rfl Ty.z26 rfl) <| gy rfl <| vl (ldO hK Ty.o26 0 rfl rfl rfl) <| gy rfl <| ?_
      refine cl Tryz.call12 rfl (sameInts_c hK s1 s2) ?_
      rintro _ w ⟨rfl, hK⟩
      refine vl (pk rfl) <| vl (aB rfl) <| nl <| thn <| rt <| p1r (a := .bool _) rfl <| ?_
      refine ⟨?_, hK.drop1.drop1⟩
      exact congrArg Value.bool ((dec_dec (p := wd.since = wd'.since)).symm.trans (dec_congr ⟨fun h => wd_eq e1 e2 e3 e4 e5 h, fun h => congrArg Wd.since h⟩))
     ·refine gn rfl <| gn rfl <| gn rfl <| gn rfl <| gn rfl <| vl (pk rfl) <| vl (aB rfl) <| nl <| thn <| rt <| p1r (a := .bool _) rfl <| ?_
      exact ⟨by rw [dec_f fun h => h5 (by rw [hW.next, hW'.next, h]; exact ⟨rfl, rfl⟩)], hK.drop1.drop1⟩
    ·refine gn rfl <| gn rfl <| gn rfl <| gn rfl <| gn rfl <| vl (pk rfl) <| vl (mB rfl) <| gn rfl <| gn rfl <| gn rfl <| gn rfl <| gn rfl <| vl (pk rfl) <| vl (aB rfl) <| nl <| thn <| ?_
     refine rt <| p1r (a := .bool _) rfl <| ?_
     exact ⟨by rw [dec_f fun h => not_dec h4 (congrArg Wd.items h)], hK.drop1.drop1⟩
   ·refine gn rfl <| gn rfl <| gn rfl <| gn rfl <| gn rfl <| vl (pk rfl) <| vl (mB rfl) <| gn rfl <| gn rfl <| gn rfl <| gn rfl <| gn rfl <| vl (pk rfl) <| vl (mB rfl) <| gn rfl <| gn rfl <| gn rfl <| gn rfl <| gn rfl <| vl (pk rfl) <| vl (aB rfl) <| nl <| thn <| ?_
    refine rt <| p1r (a := .bool _) rfl <| ?_
    exact ⟨by rw [dec_f fun h => not_dec h3 (congrArg Wd.leases h)], hK.drop1.drop1⟩
  ·refine gn rfl <| gn rfl <| gn rfl <| gn rfl <| gn rfl <| vl (pk rfl) <| vl (mB rfl) <| gn rfl <| gn rfl <| gn rfl <| gn rfl <| gn rfl <| vl (pk rfl) <| vl (mB rfl) <| gn rfl <| gn rfl <| gn rfl <| gn rfl <| gn rfl <| vl (pk rfl) <| vl (mB rfl) <| gn rfl <| gn rfl <| gn rfl <| gn rfl <| gn rfl <| vl (pk rfl) <| vl (aB rfl) <| nl <| thn <| ?_
   refine rt <| p1r (a := .bool _) rfl <| ?_
   exact ⟨by rw [dec_f fun h => not_dec h2 (by rw [hW.rg, hW'.rg, h])], hK.drop1.drop1⟩
 ·refine gn rfl <| gn rfl <| gn rfl <| gn rfl <| gn rfl <| vl (pk rfl) <| vl (mB rfl) <| gn rfl <| gn rfl <| gn rfl <| gn rfl <| gn rfl <| vl (pk rfl) <| vl (mB rfl) <| gn rfl <| gn rfl <| gn rfl <| gn rfl <| gn rfl <| vl (pk rfl) <| vl (mB rfl) <| gn rfl <| gn rfl <| gn rfl <| gn rfl <| gn rfl <| vl (pk rfl) <| vl (mB rfl) <| gn rfl <| gn rfl <| gn rfl <| gn rfl <| gn rfl <| vl (pk rfl) <| vl (aB rfl) <| nl <| thn <| ?_
  refine rt <| p1r (a := .bool _) rfl <| ?_
  exact ⟨by rw [dec_f fun h => h1 (by rw [hW.now, hW'.now, h])], hK.drop1.drop1⟩
end
end Go.Proofs.YtoaeogpnbpaojaaGreat
