/- Contracts of the functions on ideal rings. Contracts of the functions that copy, measure and compare worlds. Conditions: those that each row states. -/
import Derived.Test.YthblmldlkipidaaGreatDoorWq
import Derived.Test.YthblmldlkipidaaGreatDoorWo
import Derived.Test.YthblmldlkipidaaGreatDoorSe
namespace Go.Proofs.YthblmldlkipidaaGreatDoor
open Go Go.Ro

section
variable {e w : World} {G : View} {L A : Own} {v u : Value} {xs ys : List Int} {ls ms : List Ls} {rs qs : List Rn} {zs ts : List It} {W W' : Wv} {wd wd' : Wd} {a b k id other : Int} {i j bk o : Nat}

theorem slicesEqual_c (hK : K e w G L) (hv : IntS G v xs) (hu : IntS G u ys) : Ret Tryz.prog 114 #[v, u] w (fun r w' => r = .bool (decide (xs = ys)) ∧ K e w' G L) := by
 have hle := hv.le
 refine enter1 (args := [v, u]) Tryz.func114 rfl rfl rfl rfl ?_
 refine sq <| rg <| ?_
 refine vl (aB rfl) <| nl <| thn <| sq <| sq <| rg <| vl mv <| vl (ln Tryz.underlying26 rfl hv.len) <| vl mv <| vl (ln Tryz.underlying26 rfl hu.len) <| vl (ne rfl rfl) <| nl <| thn <| ?_
 refine cdP rfl (fun h0 => ?_) (fun h0 => ?_)
 ·refine sq <| rg <| ?_
  refine vl (aB rfl) <| nl <| thn <| rt <| thr <| p1r (a := .bool _) rfl <| ?_
  exact ⟨by rw [decide_eq_false fun h => h0 (by rw [h])], hK⟩
 ·have hln : xs.length = ys.length := by omega
  refine sk <| thn <| sq <| sq <| rg <| ?_
  refine vl mv <| vl (ln Tryz.underlying26 rfl hv.len) <| vl (mI rfl) <| nl <| thn <| bk <| ?_
  refine lp (σ := Nat) (fun i => [(0, v), (1, u), (12, .int .i64 (xs.length : Int)), (13, .int .i64 (i : Int))]) (fun i w => i ≤ xs.length ∧ xs.take i = ys.take i ∧ K e w G L) (fun i => xs.length - i) 0 ⟨rfl, rfl, rfl, rfl, trivial⟩ ⟨Nat.zero_le _, rfl, hK⟩ ?_
  rintro i g w ⟨hi, ha, hK⟩
  refine sq <| rg <| ?_
  refine vl (lt rfl rfl) <| nl <| thn <| sq <| ?_
  refine cdP rfl (fun hc => ?_) (fun hc => ?_)
  ·have hi' : i < xs.length := by omega
   have hi2 : i < ys.length := by omega
   refine sk <| thn <| sq <| bk <| sq <| rg <| ?_
   refine vl (mI rfl) <| vl (aI rfl) <| nl <| thn <| sq <| ?_
   refine rgq (fun w => K _ w _ _) Ty.mixed kr (hK.drawn _) ?_
   refine qv (fun w hK => mv) <| ?_; refine qv (fun w hK => (mI rfl)) <| ?_; refine qv (fun w hK => (ixn1 Tryz.underlying26 Ty.s3 rfl hv.1 rfl om)) <| ?_; refine qldV Ty.o3 rfl (hv.at om) <| ?_; refine qv (fun w hK => mv) <| ?_; refine qv (fun w hK => (mI rfl)) <| ?_; refine qv (fun w hK => (ixn1 Tryz.underlying26 Ty.s3 rfl hu.1 rfl om)) <| ?_; refine qldV Ty.o3 rfl (hu.at om) <| ?_; refine qv (fun w hK => (ne rfl rfl)) <| ?_; refine qn <| ?_
   intro w hK
   refine thn <| ?_
   refine cdP rfl (fun h1 => ?_) (fun h1 => ?_)
   ·refine sq <| rg <| ?_
    refine vl (aB rfl) <| nl <| thn <| rt <| bkr <| thr <| thr <| bkr <| thr <| p1r (a := .bool _) rfl <| ?_
    exact ⟨by rw [decide_eq_false fun h => h1 (by subst h; rfl)], hK⟩
   ·have h1' := Decidable.not_not.1 h1
    refine sk <| bkn <| thn <| rg <| ?_
    refine vl (ad rfl rfl) <| vl (mI rfl) <| nl <| thn <| ?_
    exact ⟨i + 1, ⟨rfl, rfl, rfl, rfl, trivial⟩, ⟨hi', by rw [List.take_succ_eq_append_getElem hi', List.take_succ_eq_append_getElem hi2, ha, h1'], hK⟩, by omega⟩
  ·have hi' : i = xs.length := by omega
   subst hi'
   rw [List.take_length, hln, List.take_length] at ha
   refine ex <| the <| the <| bkh <| thn <| sq <| rg <| ?_
   refine vl (aB rfl) <| nl <| thn <| rt <| p1r (a := .bool _) rfl <| ?_
   exact ⟨by rw [decide_eq_true ha], hK⟩

theorem sameRing1_c (hK : K e w G L) {x y : Rn} (hx : IntS G x.2.2.1 x.2.2.2) (hy : IntS G y.2.2.1 y.2.2.2) : Ret Tryz.prog 113 #[.agg (rc x).toArray, .agg (rc y).toArray] w (fun r w' => r = .bool (dec (nd x = nd y)) ∧ K e w' G L) := by
 refine enter1 (args := [.agg (rc x).toArray, .agg (rc y).toArray]) Tryz.func113 rfl rfl rfl rfl ?_
 refine sq <| rg <| ?_
 refine bx hK rfl rfl ?_
 intro b2 w hK
 refine bx hK rfl rfl ?_
 intro b3 w hK
 refine vl (aB rfl) <| nl <| thn <| sq <| rg <| vl (fa Tryz.underlying40 rfl Ty.z3 rfl) <| vl (ldO hK Ty.o3 1 rfl rfl rfl) <| vl (fa Tryz.underlying40 rfl Ty.z3 rfl) <| vl (ldO hK Ty.o3 0 rfl rfl rfl) <| vl (eq rfl rfl) <| vl (mB rfl) <| ?_
 refine splP (t := 10) rfl (fun h1 => ?_) (fun h1 => ?_)
 ·refine gy rfl <| vl (fa Tryz.underlying40 rfl Ty.z3 rfl) <| gy rfl <| vl (ldO hK Ty.o3 1 rfl rfl rfl) <| gy rfl <| vl (fa Tryz.underlying40 rfl Ty.z3 rfl) <| gy rfl <| vl (ldO hK Ty.o3 0 rfl rfl rfl) <| gy rfl <| vl (eq rfl rfl) <| vl (pk rfl) <| vl (mB rfl) <| ?_
  refine splP (t := 17) rfl (fun h2 => ?_) (fun h2 => ?_)
  ·refine gy rfl <| vl (fa Tryz.underlying40 rfl Ty.z26 rfl) <| gy rfl <| vl (ldO hK Ty.o26 1 rfl rfl rfl) <| gy rfl <| vl (fa Tryz.underlying40 rfl Ty.z26 rfl) <| gy rfl <| vl (ldO hK Ty.o26 0 rfl rfl rfl) <| gy rfl <| ?_
   refine cl Tryz.call114 rfl (slicesEqual_c hK hx hy) ?_
   rintro _ w ⟨rfl, hK⟩
   refine vl (pk rfl) <| vl (aB rfl) <| nl <| thn <| rt <| p1r (a := .bool _) rfl <| ?_
   refine ⟨?_, hK.drop1.drop1⟩
   exact congrArg Value.bool ((dec_dec (p := x.2.2.2 = y.2.2.2)).symm.trans (dec_congr ⟨fun h => nd_eq h1 h2 h, fun h => congrArg (fun n : Nd => n.2.2) h⟩))
  ·refine gn rfl <| gn rfl <| gn rfl <| gn rfl <| gn rfl <| vl (pk rfl) <| vl (aB rfl) <| nl <| thn <| rt <| p1r (a := .bool _) rfl <| ?_
   exact ⟨by rw [dec_f fun h => h2 (congrArg (fun n : Nd => n.2.1) h)], hK.drop1.drop1⟩
 ·refine gn rfl <| gn rfl <| gn rfl <| gn rfl <| gn rfl <| vl (pk rfl) <| vl (mB rfl) <| gn rfl <| gn rfl <| gn rfl <| gn rfl <| gn rfl <| vl (pk rfl) <| vl (aB rfl) <| nl <| thn <| ?_
  refine rt <| p1r (a := .bool _) rfl <| ?_
  exact ⟨by rw [dec_f fun h => h1 (congrArg (fun n : Nd => n.1) h)], hK.drop1.drop1⟩

theorem equalFuncN_c {F : FuncId} (hf : ∀ args w, (callFunc F args).run Tryz.prog w = .ok (.enter F args) w) (hK : K e w G L) (hv : RngS G v rs) (hu : RngS G u qs)
  (hp : ∀ (x y : Rn) (w : World) (L : Own), x ∈ rs → y ∈ qs → K e w G L → Ret Tryz.prog F ([Value.agg (rc x).toArray, Value.agg (rc y).toArray] ++ []).toArray w (fun r w' => r = .bool (dec (nd x = nd y)) ∧ K e w' G L)) :
  Ret Tryz.prog 112 #[v, u, .func (.func F) #[] #[]] w (fun r w' => r = .bool (dec (rgl rs = rgl qs)) ∧ K e w' G L) := by
 have hs := hv.sl
 have hs2 := hu.sl
 have hle := hs.le
 refine enter1 (args := [v, u, .func (.func F) #[] #[]]) Tryz.func112 rfl rfl rfl rfl ?_
 refine sq <| rg <| ?_
 refine vl (aB rfl) <| nl <| thn <| sq <| sq <| rg <| vl mv <| vl (ln Tryz.underlying23 rfl hs.len) <| vl mv <| vl (ln Tryz.underlying23 rfl hs2.len) <| vl (ne rfl rfl) <| nl <| thn <| ?_
 refine cdP rfl (fun h0 => ?_) (fun h0 => ?_)
 ·refine sq <| rg <| ?_
  refine vl (aB rfl) <| nl <| thn <| rt <| thr <| p1r (a := .bool _) rfl <| ?_
  exact ⟨by rw [dec_f fun h => h0 (by have := congrArg List.length h; rw [rg_len, rg_len] at this; omega)], hK⟩
 ·have hln : rs.length = qs.length := by omega
  refine sk <| thn <| sq <| sq <| rg <| ?_
  refine vl mv <| vl (ln Tryz.underlying23 rfl hs.len) <| vl (mI rfl) <| nl <| thn <| bk <| ?_
  refine lp (σ := Nat) (fun i => [(1, u), (2, .func (.func F) #[] #[]), (15, v), (16, .int .i64 (rs.length : Int)), (17, .int .i64 (i : Int))]) (fun i w => i ≤ rs.length ∧ rgl (rs.take i) = rgl (qs.take i) ∧ K e w G L) (fun i => rs.length - i) 0 ⟨rfl, rfl, rfl, rfl, rfl, trivial⟩ ⟨Nat.zero_le _, rfl, hK⟩ ?_
  rintro i g w ⟨hi, ha, hK⟩
  refine sq <| rg <| ?_
  refine vl (lt rfl rfl) <| nl <| thn <| sq <| ?_
  refine cdP rfl (fun hc => ?_) (fun hc => ?_)
  ·have hi' : i < rs.length := by omega
   have hi2 : i < qs.length := by omega
   have hx := hv.at hi'
   have hy := hu.at hi2
   refine sk <| thn <| sq <| bk <| sq <| rg <| ?_
   refine vl (mI rfl) <| vl (ixn Tryz.underlying23 Ty.s40 rfl hs.1 rfl om) <| vl (lsF hK Ty.a40 Ty.s40 rfl hs om) <| ?_
   refine al hK Ty.i40 rfl ?_
   intro b8 w hK
   refine vl (aI rfl) <| ?_
   refine soS hK Ty.i40 0 rfl rfl rfl rfl (allc rfl (allc rfl (allc hx.1.one rfl))) rfl ?_
   intro w hK
   refine nl <| thn <| sq <| rg <| vl mv <| vl (mI rfl) <| vl (ixn Tryz.underlying23 Ty.s40 rfl hs2.1 rfl om) <| vl (lsF hK Ty.a40 Ty.s40 rfl hs2 om) <| ?_
   refine al hK Ty.i40 rfl ?_
   intro b9 w hK
   refine soS hK Ty.i40 0 rfl rfl rfl rfl (allc rfl (allc rfl (allc hy.1.one rfl))) rfl ?_
   intro w hK
   refine nl <| thn <| sq <| rg <| vl mv <| vl (lsO hK Ty.a40 Ty.s40 1 rfl rfl rfl) <| vl (lsO hK Ty.a40 Ty.s40 0 rfl rfl rfl) <| ?_
   refine cf (cap := ([] : List Value)) (hf) rfl rfl (hp rs[i] qs[i] w _ (List.getElem_mem hi') (List.getElem_mem hi2) hK) ?_
   rintro _ w ⟨rfl, hK⟩
   refine vl (ntB rfl) <| nl <| thn <| ?_
   refine cdB rfl (fun h1 => ?_) (fun h1 => ?_)
   ·have h1' := not_dec (Eq.mp (Bool.not_eq_true' _) h1)
    refine sq <| rg <| ?_
    refine vl (aB rfl) <| nl <| thn <| rt <| bkr <| thr <| thr <| bkr <| thr <| p1r (a := .bool _) rfl <| ?_
    exact ⟨by rw [dec_f fun h => h1' (by rw [← rg_get hi', ← rg_get hi2]; simp only [h])], hK.drop1.drop1⟩
   ·have h1' := of_dec (Eq.mp (Bool.not_eq_false' _) h1)
    refine sk <| bkn <| thn <| rg <| ?_
    refine vl (ad rfl rfl) <| vl (mI rfl) <| nl <| thn <| ?_
    exact ⟨i + 1, ⟨rfl, rfl, rfl, rfl, rfl, trivial⟩, ⟨hi', by rw [rgl_take_succ hi', rgl_take_succ hi2, ha, h1'], hK.drop1.drop1⟩, by omega⟩
  ·have hi' : i = rs.length := by omega
   subst hi'
   rw [List.take_length, hln, List.take_length] at ha
   refine ex <| the <| the <| bkh <| thn <| sq <| rg <| ?_
   refine vl (aB rfl) <| nl <| thn <| rt <| p1r (a := .bool _) rfl <| ?_
   exact ⟨by rw [dec_t ha], hK⟩

theorem implSameRing_c (hK : K e w G L) (hv : RngS G v rs) (hu : RngS G u qs) : Ret Tryz.prog 72 #[v, u] w (fun r w' => r = .bool (dec (rgl rs = rgl qs)) ∧ K e w' G L) := by
 refine enter1 (args := [v, u]) Tryz.func72 rfl rfl rfl rfl ?_
 refine sq <| rg <| ?_
 refine vl (aB rfl) <| nl <| thn <| sq <| rg <| vl mv <| vl mv <| ?_
 refine cl Tryz.call112 rfl (equalFuncN_c Tryz.call113 hK hv hu (fun x y w L hx hy hK => sameRing1_c hK (hv.aft x hx) (hu.aft y hy))) ?_
 rintro _ w ⟨rfl, hK⟩
 refine vl (aB rfl) <| nl <| thn <| rt <| p1r (a := .bool _) rfl <| ?_
 exact ⟨rfl, hK⟩

theorem implRingIdeal_c (hK : K e w G L) (hv : RngS G v rs) : Ret Tryz.prog 28 #[v] w (fun r w' => (∃ b, r = .bool b ∧ (b = true ↔ RgOk (rgl rs) ∧ 3 ≤ rs.length ∧ rgl rs = idl (ids (rgl rs)))) ∧ K e w' G L) := by
 refine enter1 (args := [v]) Tryz.func28 rfl rfl rfl rfl ?_
 refine sq <| rg <| ?_
 refine vl (aB rfl) <| nl <| thn <| sq <| sq <| rg <| vl mv <| ?_
 refine cl Tryz.call67 rfl (implRingValid_c hK hv) ?_
 rintro _ w ⟨rfl, hK⟩
 refine vl (ntB rfl) <| nl <| thn <| ?_
 refine cdB rfl (fun h1 => ?_) (fun h1 => ?_)
 ·have h1' := not_dec (Eq.mp (Bool.not_eq_true' _) h1)
  refine sq <| rg <| ?_
  refine vl (aB rfl) <| nl <| thn <| rt <| thr <| p1r (a := .bool _) rfl <| ?_
  exact ⟨⟨_, rfl, by simp [h1']⟩, hK⟩
 ·have h1' := of_dec (Eq.mp (Bool.not_eq_false' _) h1)
  have hlen := len_of h1'
  refine sk <| thn <| sq <| rg <| ?_
  refine vl mv <| ?_
  refine cl Tryz.call68 rfl (idsOf_c hK hv om) ?_
  rintro u w ⟨A, ho, hK⟩
  obtain ⟨G1, hG1, hu, hK⟩ := K.pubO (xs := rs.map (·.1)) hK (by rw [List.length_map]; exact ho)
  refine cl Tryz.call71 rfl (implRingNew_c hK hu) ?_
  rintro _ w ⟨G2, u2, qs, b, rfl, hG2, hR, hb, hrg, hK⟩
  refine vl mv <| vl (ext rfl rfl) <| vl (ext rfl rfl) <| vl asg <| vl (aB rfl) <| nl <| thn <| sq <| rg <| vl (mB rfl) <| vl (mB rfl) <| ?_
  refine spl (t := 15) rfl (fun h2 => ?_) (fun h2 => ?_)
  ·refine gy rfl <| vl mv <| gy rfl <| vl mv <| gy rfl <| ?_
   refine cl Tryz.call72 rfl (implSameRing_c hK (hv.mono (hG1.trans hG2)) hR) ?_
   rintro _ w ⟨rfl, hK⟩
   refine vl (pk rfl) <| vl (aB rfl) <| nl <| thn <| rt <| p1r (a := .bool _) rfl <| ?_
   subst h2
   exact ⟨⟨_, rfl, by rw [dec_iff, hrg, ids_rg]; have := hb.1 rfl; rw [List.length_map] at this; simp [h1', this.2]⟩, K.vle hK (hG1.trans hG2)⟩
  ·refine gn rfl <| gn rfl <| gn rfl <| vl (pk rfl) <| vl (aB rfl) <| nl <| thn <| rt <| p1r (a := .bool _) rfl <| ?_
   exact ⟨⟨_, rfl, by
    simp only [Bool.false_eq_true, false_iff]
    rintro ⟨_, h3, _⟩
    have := hb.2 ⟨⟨by rw [List.length_map]; omega, by rw [← ids_rg]; exact asc_ids h1'⟩, by rw [List.length_map]; exact h3⟩
    rw [h2] at this; cases this⟩, K.vle hK (hG1.trans hG2)⟩
end
end Go.Proofs.YthblmldlkipidaaGreatDoor

namespace Go.Proofs.YthblmldlkipidaaGreatDoor
open Go Go.Ro

section
variable {e w : World} {G : View} {L A : Own} {v u t t2 : Value} {xs ys : List Int} {ls ms : List Ls} {rs qs : List Rn} {zs ts : List It} {W W' : Wv} {wd wd' : Wd} {n m k : Int}

/-- what a world measures at most -/
def WdL (wd : Wd) : Prop := wd.ring.length ≤ 1048576 ∧ (∀ x ∈ wd.ring, x.2.2.length ≤ 1048576) ∧ wd.leases.length ≤ 1048576 ∧ wd.items.length ≤ 1048576 ∧ wd.scan.2.length ≤ 1048576 ∧ wd.since.length ≤ 1048576
end
end Go.Proofs.YthblmldlkipidaaGreatDoor