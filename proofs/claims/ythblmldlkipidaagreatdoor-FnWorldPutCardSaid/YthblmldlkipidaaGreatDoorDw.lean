/- Contracts of the functions on ideal rings. Contracts of the functions that copy, measure and compare worlds. Contracts of the functions that draw nodes, rings and worlds. Conditions: those that each row states. -/
import Derived.Test.YthblmldlkipidaaGreatDoorWq
import Derived.Test.YthblmldlkipidaaGreatDoorWn
import Derived.Test.YthblmldlkipidaaGreatDoorSe
namespace Go.Proofs.YthblmldlkipidaaGreatDoor
open Go Go.Ro

section
variable {e w : World} {G : View} {L A : Own} {v u : Value} {xs ys : List Int} {ls ms : List Ls} {rs qs : List Rn} {zs ts : List It} {W W' : Wv} {wd wd' : Wd} {a b k id other : Int} {i j bk o : Nat}

theorem slicesEqual_c (hK : K e w G L) (hv : IntS G v xs) (hu : IntS G u ys) : Ret Tryz.prog 114 #[v, u] w (fun r w' => r = .bool (decide (xs = ys)) ∧ K e w' G L) := by
 have hle := hv.le
 refine enter1 (args := [v, u]) Tryz.func114 rfl rfl rfl rfl ?_
 refine sq <| rg <| ?_
 refine vl (aB rfl) <| nl <| thn <| sq <| sq <| rg <| vl mv <| vl (ln Tryz.underlying26 rfl hv.len) <| vl mv <| vl (ln Tryz.underlying26 rfl hu.len) <| vl (ne rfl rfl) <| nl <| thn <| ?_
 refine cdP rfl (fun h0 => ?_) (fun h0 => ?_)
 ·refine sq <| rg <| ?_
  refine vl (aB rfl) <| nl <| thn <| rt <| thr <| p1r (a := .bool _) rfl <| ?_
  exact ⟨by rw [decide_eq_false fun h => h0 (by rw [h])], hK⟩
 ·have hln : xs.length = ys.length := by omega
  refine sk <| thn <| sq <| sq <| rg <| ?_
  refine vl mv <| vl (ln Tryz.underlying26 rfl hv.len) <| vl (mI rfl) <| nl <| thn <| bk <| ?_
  refine lp (σ := Nat) (fun i => [(0, v), (1, u), (12, .int .i64 (xs.length : Int)), (13, .int .i64 (i : Int))]) (fun i w => i ≤ xs.length ∧ xs.take i = ys.take i ∧ K e w G L) (fun i => xs.length - i) 0 ⟨rfl, rfl, rfl, rfl, trivial⟩ ⟨Nat.zero_le _, rfl, hK⟩ ?_
  rintro i g w ⟨hi, ha, hK⟩
  refine sq <| rg <| ?_
  refine vl (lt rfl rfl) <| nl <| thn <| sq <| ?_
  refine cdP rfl (fun hc => ?_) (fun hc => ?_)
  ·have hi' : i < xs.length := by omega
   have hi2 : i < ys.length := by omega
   refine sk <| thn <| sq <| bk <| sq <| rg <| ?_
   refine vl (mI rfl) <| vl (aI rfl) <| nl <| thn <| sq <| ?_
   refine rgq (fun w => K _ w _ _) Ty.mixed kr (hK.drawn _) ?_
   refine qv (fun w hK => mv) <| ?_; refine qv (fun w hK => (mI rfl)) <| ?_; refine qv (fun w hK => (ixn1 Tryz.underlying26 Ty.s3 rfl hv.1 rfl om)) <| ?_; refine qldV Ty.o3 rfl (hv.at om) <| ?_; refine qv (fun w hK => mv) <| ?_; refine qv (fun w hK => (mI rfl)) <| ?_; refine qv (fun w hK => (ixn1 Tryz.underlying26 Ty.s3 rfl hu.1 rfl om)) <| ?_; refine qldV Ty.o3 rfl (hu.at om) <| ?_; refine qv (fun w hK => (ne rfl rfl)) <| ?_; refine qn <| ?_
   intro w hK
   refine thn <| ?_
   refine cdP rfl (fun h1 => ?_) (fun h1 => ?_)
   ·refine sq <| rg <| ?_
    refine vl (aB rfl) <| nl <| thn <| rt <| bkr <| thr <| thr <| bkr <| thr <| p1r (a := .bool _) rfl <| ?_
    exact ⟨by rw [decide_eq_false fun h => h1 (by subst h; rfl)], hK⟩
   ·have h1' := Decidable.not_not.1 h1
    refine sk <| bkn <| thn <| rg <| ?_
    refine vl (ad rfl rfl) <| vl (mI rfl) <| nl <| thn <| ?_
    exact ⟨i + 1, ⟨rfl, rfl, rfl, rfl, trivial⟩, ⟨hi', by rw [List.take_succ_eq_append_getElem hi', List.take_succ_eq_append_getElem hi2, ha, h1'], hK⟩, by omega⟩
  ·have hi' : i = xs.length := by omega
   subst hi'
   rw [List.take_length, hln, List.take_length] at ha
   refine ex <| the <| the <| bkh <| thn <| sq <| rg <| ?_
   refine vl (aB rfl) <| nl <| thn <| rt <| p1r (a := .bool _) rfl <| ?_
   exact ⟨by rw [decide_eq_true ha], hK⟩

theorem sameRing1_c (hK : K e w G L) {x y : Rn} (hx : IntS G x.2.2.1 x.2.2.2) (hy : IntS G y.2.2.1 y.2.2.2) : Ret Tryz.prog 113 #[.agg (rc x).toArray, .agg (rc y).toArray] w (fun r w' => r = .bool (dec (nd x = nd y)) ∧ K e w' G L) := by
 refine enter1 (args := [.agg (rc x).toArray, .agg (rc y).toArray]) Tryz.func113 rfl rfl rfl rfl ?_
 refine sq <| rg <| ?_
 refine bx hK rfl rfl ?_
 intro b2 w hK
 refine bx hK rfl rfl ?_
 intro b3 w hK
 refine vl (aB rfl) <| nl <| thn <| sq <| rg <| vl (fa Tryz.underlying40 rfl Ty.z3 rfl) <| vl (ldO hK Ty.o3 1 rfl rfl rfl) <| vl (fa Tryz.underlying40 rfl Ty.z3 rfl) <| vl (ldO hK Ty.o3 0 rfl rfl rfl) <| vl (eq rfl rfl) <| vl (mB rfl) <| ?_
 refine splP (t := 10) rfl (fun h1 => ?_) (fun h1 => ?_)
 ·refine gy rfl <| vl (fa Tryz.underlying40 rfl Ty.z3 rfl) <| gy rfl <| vl (ldO hK Ty.o3 1 rfl rfl rfl) <| gy rfl <| vl (fa Tryz.underlying40 rfl Ty.z3 rfl) <| gy rfl <| vl (ldO hK Ty.o3 0 rfl rfl rfl) <| gy rfl <| vl (eq rfl rfl) <| vl (pk rfl) <| vl (mB rfl) <| ?_
  refine splP (t := 17) rfl (fun h2 => ?_) (fun h2 => ?_)
  ·refine gy rfl <| vl (fa Tryz.underlying40 rfl Ty.z26 rfl) <| gy rfl <| vl (ldO hK Ty.o26 1 rfl rfl rfl) <| gy rfl <| vl (fa Tryz.underlying40 rfl Ty.z26 rfl) <| gy rfl <| vl (ldO hK Ty.o26 0 rfl rfl rfl) <| gy rfl <| ?_
   refine cl Tryz.call114 rfl (slicesEqual_c hK hx hy) ?_
   rintro _ w ⟨rfl, hK⟩
   refine vl (pk rfl) <| vl (aB rfl) <| nl <| thn <| rt <| p1r (a := .bool _) rfl <| ?_
   refine ⟨?_, hK.drop1.drop1⟩
   exact congrArg Value.bool ((dec_dec (p := x.2.2.2 = y.2.2.2)).symm.trans (dec_congr ⟨fun h => nd_eq h1 h2 h, fun h => congrArg (fun n : Nd => n.2.2) h⟩))
  ·refine gn rfl <| gn rfl <| gn rfl <| gn rfl <| gn rfl <| vl (pk rfl) <| vl (aB rfl) <| nl <| thn <| rt <| p1r (a := .bool _) rfl <| ?_
   exact ⟨by rw [dec_f fun h => h2 (congrArg (fun n : Nd => n.2.1) h)], hK.drop1.drop1⟩
 ·refine gn rfl <| gn rfl <| gn rfl <| gn rfl <| gn rfl <| vl (pk rfl) <| vl (mB rfl) <| gn rfl <| gn rfl <| gn rfl <| gn rfl <| gn rfl <| vl (pk rfl) <| vl (aB rfl) <| nl <| thn <| ?_
  refine rt <| p1r (a := .bool _) rfl <| ?_
  exact ⟨by rw [dec_f fun h => h1 (congrArg (fun n : Nd => n.1) h)], hK.drop1.drop1⟩

theorem equalFuncN_c {F : FuncId} (hf : ∀ args w, (callFunc F args).run Tryz.prog w = .ok (.enter F args) w) (hK : K e w G L) (hv : RngS G v rs) (hu : RngS G u qs)
  (hp : ∀ (x y : Rn) (w : World) (L : Own), x ∈ rs → y ∈ qs → K e w G L → Ret Tryz.prog F ([Value.agg (rc x).toArray, Value.agg (rc y).toArray] ++ []).toArray w (fun r w' => r = .bool (dec (nd x = nd y)) ∧ K e w' G L)) :
  Ret Tryz.prog 112 #[v, u, .func (.func F) #[] #[]] w (fun r w' => r = .bool (dec (rgl rs = rgl qs)) ∧ K e w' G L) := by
 have hs := hv.sl
 have hs2 := hu.sl
 have hle := hs.le
 refine enter1 (args := [v, u, .func (.func F) #[] #[]]) Tryz.func112 rfl rfl rfl rfl ?_
 refine sq <| rg <| ?_
 refine vl (aB rfl) <| nl <| thn <| sq <| sq <| rg <| vl mv <| vl (ln Tryz.underlying23 rfl hs.len) <| vl mv <| vl (ln Tryz.underlying23 rfl hs2.len) <| vl (ne rfl rfl) <| nl <| thn <| ?_
 refine cdP rfl (fun h0 => ?_) (fun h0 => ?_)
 ·refine sq <| rg <| ?_
  refine vl (aB rfl) <| nl <| thn <| rt <| thr <| p1r (a := .bool _) rfl <| ?_
  exact ⟨by rw [dec_f fun h => h0 (by have := congrArg List.length h; rw [rg_len, rg_len] at this; omega)], hK⟩
 ·have hln : rs.length = qs.length := by omega
  refine sk <| thn <| sq <| sq <| rg <| ?_
  refine vl mv <| vl (ln Tryz.underlying23 rfl hs.len) <| vl (mI rfl) <| nl <| thn <| bk <| ?_
  refine lp (σ := Nat) (fun i => [(1, u), (2, .func (.func F) #[] #[]), (15, v), (16, .int .i64 (rs.length : Int)), (17, .int .i64 (i : Int))]) (fun i w => i ≤ rs.length ∧ rgl (rs.take i) = rgl (qs.take i) ∧ K e w G L) (fun i => rs.length - i) 0 ⟨rfl, rfl, rfl, rfl, rfl, trivial⟩ ⟨Nat.zero_le _, rfl, hK⟩ ?_
  rintro i g w ⟨hi, ha, hK⟩
  refine sq <| rg <| ?_
  refine vl (lt rfl rfl) <| nl <| thn <| sq <| ?_
  refine cdP rfl (fun hc => ?_) (fun hc => ?_)
  ·have hi' : i < rs.length := by omega
   have hi2 : i < qs.length := by omega
   have hx := hv.at hi'
   have hy := hu.at hi2
   refine sk <| thn <| sq <| bk <| sq <| rg <| ?_
   refine vl (mI rfl) <| vl (ixn Tryz.underlying23 Ty.s40 rfl hs.1 rfl om) <| vl (lsF hK Ty.a40 Ty.s40 rfl hs om) <| ?_
   refine al hK Ty.i40 rfl ?_
   intro b8 w hK
   refine vl (aI rfl) <| ?_
   refine soS hK Ty.i40 0 rfl rfl rfl rfl (allc rfl (allc rfl (allc hx.1.one rfl))) rfl ?_
   intro w hK
   refine nl <| thn <| sq <| rg <| vl mv <| vl (mI rfl) <| vl (ixn Tryz.underlying23 Ty.s40 rfl hs2.1 rfl om) <| vl (lsF hK Ty.a40 Ty.s40 rfl hs2 om) <| ?_
   refine al hK Ty.i40 rfl ?_
   intro b9 w hK
   refine soS hK Ty.i40 0 rfl rfl rfl rfl (allc rfl (allc rfl (allc hy.1.one rfl))) rfl ?_
   intro w hK
   refine nl <| thn <| sq <| rg <| vl mv <| vl (lsO hK Ty.a40 Ty.s40 1 rfl rfl rfl) <| vl (lsO hK Ty.a40 Ty.s40 0 rfl rfl rfl) <| ?_
   refine cf (cap := ([] : List Value)) (hf) rfl rfl (hp rs[i] qs[i] w _ (List.getElem_mem hi') (List.getElem_mem hi2) hK) ?_
   rintro _ w ⟨rfl, hK⟩
   refine vl (ntB rfl) <| nl <| thn <| ?_
   refine cdB rfl (fun h1 => ?_) (fun h1 => ?_)
   ·have h1' := not_dec (Eq.mp (Bool.not_eq_true' _) h1)
    refine sq <| rg <| ?_
    refine vl (aB rfl) <| nl <| thn <| rt <| bkr <| thr <| thr <| bkr <| thr <| p1r (a := .bool _) rfl <| ?_
    exact ⟨by rw [dec_f fun h => h1' (by rw [← rg_get hi', ← rg_get hi2]; simp only [h])], hK.drop1.drop1⟩
   ·have h1' := of_dec (Eq.mp (Bool.not_eq_false' _) h1)
    refine sk <| bkn <| thn <| rg <| ?_
    refine vl (ad rfl rfl) <| vl (mI rfl) <| nl <| thn <| ?_
    exact ⟨i + 1, ⟨rfl, rfl, rfl, rfl, rfl, trivial⟩, ⟨hi', by rw [rgl_take_succ hi', rgl_take_succ hi2, ha, h1'], hK.drop1.drop1⟩, by omega⟩
  ·have hi' : i = rs.length := by omega
   subst hi'
   rw [List.take_length, hln, List.take_length] at ha
   refine ex <| the <| the <| bkh <| thn <| sq <| rg <| ?_
   refine vl (aB rfl) <| nl <| thn <| rt <| p1r (a := .bool _) rfl <| ?_
   exact ⟨by rw [dec_t ha], hK⟩

theorem implSameRing_c (hK : K e w G L) (hv : RngS G v rs) (hu : RngS G u qs) : Ret Tryz.prog 72 #[v, u] w (fun r w' => r = .bool (dec (rgl rs = rgl qs)) ∧ K e w' G L) := by
 refine enter1 (args := [v, u]) Tryz.func72 rfl rfl rfl rfl ?_
 refine sq <| rg <| ?_
 refine vl (aB rfl) <| nl <| thn <| sq <| rg <| vl mv <| vl mv <| ?_
 refine cl Tryz.call112 rfl (equalFuncN_c Tryz.call113 hK hv hu (fun x y w L hx hy hK => sameRing1_c hK (hv.aft x hx) (hu.aft y hy))) ?_
 rintro _ w ⟨rfl, hK⟩
 refine vl (aB rfl) <| nl <| thn <| rt <| p1r (a := .bool _) rfl <| ?_
 exact ⟨rfl, hK⟩

end
end Go.Proofs.YthblmldlkipidaaGreatDoor

namespace Go.Proofs.YthblmldlkipidaaGreatDoor
open Go Go.Ro

section
variable {e w : World} {G : View} {L A : Own} {v u t t2 : Value} {xs ys : List Int} {ls ms : List Ls} {rs qs : List Rn} {zs ts : List It} {W W' : Wv} {wd wd' : Wd} {n m k : Int}

/-- what a world measures at most -/
def WdL (wd : Wd) : Prop := wd.ring.length ≤ 1048576 ∧ (∀ x ∈ wd.ring, x.2.2.length ≤ 1048576) ∧ wd.leases.length ≤ 1048576 ∧ wd.items.length ≤ 1048576 ∧ wd.scan.2.length ≤ 1048576 ∧ wd.since.length ≤ 1048576
end
end Go.Proofs.YthblmldlkipidaaGreatDoor
namespace Go.Proofs.YthblmldlkipidaaGreatDoor
open Go Go.Ro

section
variable {e w : World} {G : View} {L A : Own} {v u cva : Value} {code xs ys : List Int} {ls ms : List Ls} {rs qs : List Rn} {zs ts : List It} {W W' : Wv} {wd wd' : Wd} {a b k id other p m : Int} {i j bk o rb : Nat}

theorem l91Good_c (hK : K e w G ((rb, row [cva, .int .i64 p] 98) :: L)) (hcode : BytS G cva code) (hlen : code.length ≤ 2000) (h0 : 0 ≤ p) (h1 : p ≤ 900000000) (m1 : 1 ≤ m) (m3 : m ≤ 3) :
  Ret Tryz.prog 51 #[.pointer (some ⟨rb, 0, none⟩), .int .i64 m] w (fun r w' => ∃ G' xs A p', VLe G G' ∧ OS 1 3 r xs.length (ints xs) A ∧ Asc xs ∧ m ≤ xs.length ∧ xs.length ≤ 10 ∧ p ≤ p' ∧ p' ≤ p + 20 ∧ K e w' G' ((rb, row [cva, .int .i64 p'] 98) :: (A ++ L))) := by
 refine enter1 (args := [.pointer (some ⟨rb, 0, none⟩), .int .i64 m]) Tryz.func51 rfl rfl rfl rfl ?_
 refine sq <| rg <| ?_
 refine vl asg <| nl <| thn <| sq <| rg <| ?_
 refine bs0 hK Tryz.underlying26 Ty.i3 ?_
 intro b10 w hK
 refine vl asg <| nl <| thn <| sq <| rg <| vl (mI rfl) <| vl mv <| vl (mI rfl) <| vl (sb rfl rfl) <| ?_
 refine cl Tryz.call32 rfl (pickJ_c 1 hK rfl hcode hlen om om om) ?_
 rintro _ w ⟨⟨k15, rfl, hk15, hkn15⟩, hK⟩
 refine vl (ad rfl rfl) <| vl (aI rfl) <| nl <| thn <| sq <| sq <| rg <| vl (aI rfl) <| nl <| thn <| bk <| ?_
 replace hK := K.swp hK
 refine lp (σ := Nat × View × Value × List Int × Own) (fun s => [(0, .pointer (some ⟨rb, 0, none⟩)), (5, s.2.2.1), (6, .int .i64 (m + k15)), (7, .int .i64 (s.1 : Int))]) (fun s w => (s.1 : Int) ≤ m + k15 ∧ VLe G s.2.1 ∧ OS 1 3 s.2.2.1 s.2.2.2.1.length (ints s.2.2.2.1) s.2.2.2.2 ∧ Asc s.2.2.2.1 ∧ s.2.2.2.1.length = s.1 ∧ K e w s.2.1 ((rb, row [cva, .int .i64 (p + 1 + (s.1 : Int))] 98) :: (s.2.2.2.2 ++ L))) (fun s => (m + k15).toNat - s.1) (0, G, .slice (some ⟨b10, 0, none⟩) 0 0, [], [(b10, row [] 3)]) ⟨rfl, rfl, rfl, rfl, trivial⟩ ⟨by simp only; omega, VLe.refl _, OS.none, Asc.nil, rfl, by simpa using hK⟩ ?_
 rintro ⟨i, G1, u, xs, A⟩ g w ⟨hi, hG1, ho, has, hxl, hK⟩
 simp only at hi hG1 ho has hxl hK
 replace hcode := hcode.mono hG1
 refine sq <| sq <| rg <| ?_
 refine vl (mI rfl) <| vl (mI rfl) <| vl (lt rfl rfl) <| nl <| thn <| ?_
 refine cdP rfl (fun hc => ?_) (fun hc => ?_)
 ·have hi' : (i : Int) < m + k15 := by simp only at hc; omega
  refine sk <| thn <| sq <| bk <| sq <| rg <| ?_
  refine vl mv <| ?_
  refine cl Tryz.call32 rfl (pickN_c hK hcode hlen om om om) ?_
  rintro _ w ⟨⟨k23, rfl, hk23, hkn23⟩, hK⟩
  refine vl (aI rfl) <| nl <| thn <| sq <| bk <| ?_
  obtain ⟨G2, hG2, hx, hK⟩ := K.pubO (K.mid (A := [_]) (B := A) hK) ho
  have hxs := has.len
  obtain ⟨d0, hd0⟩ := freeAt (xs := xs) (by omega) k23
  refine lp (σ := Nat) (fun j => [(0, .pointer (some ⟨rb, 0, none⟩)), (5, u), (6, .int .i64 (m + k15)), (7, .int .i64 (i : Int)), (8, .int .i64 ((k23 + (j : Int)) % 64))]) (fun j w => j ≤ d0 ∧ K e w G2 ((rb, row [cva, .int .i64 (p + 1 + (i : Int) + 1)] 98) :: L)) (fun j => d0 - j) 0 ⟨rfl, rfl, rfl, rfl, congrArg (Value.int .i64) om, trivial⟩ ⟨Nat.zero_le _, hK⟩ ?_
  rintro j g w ⟨hj, hK⟩
  refine sq <| sq <| rg <| ?_
  refine vl mv <| vl (mI rfl) <| ?_
  refine cl Tryz.call49 rfl (l1Has_c hK (by assumption)) ?_
  rintro _ w ⟨rfl, hK⟩
  refine nl <| thn <| ?_
  refine cdP rfl (fun hx2 => ?_) (fun hx2 => ?_)
  ·have hjd : j ≠ d0 := fun e => hd0 (e ▸ hx2)
   refine sk <| thn <| bk <| rg <| ?_
   refine vl (mI rfl) <| vl (ad rfl rfl) <| vl (rm rfl rfl) <| vl (aI rfl) <| nl <| bkn <| thn <| ?_
   exact ⟨j + 1, ⟨rfl, rfl, rfl, rfl, congrArg (Value.int .i64) (by omega), trivial⟩, ⟨by omega, hK⟩, by omega⟩
  ·have hpp : Pt ((k23 + (j : Int)) % 64) := ⟨by omega, by omega⟩
   refine ex <| the <| the <| bkh <| thn <| sq <| rg <| ?_
   refine vl (aI rfl) <| nl <| thn <| sq <| bk <| ?_
   generalize hppe : ((k23 + (j : Int)) % 64) = pp at *
   refine lp (σ := Nat) (fun k => [(0, .pointer (some ⟨rb, 0, none⟩)), (5, u), (6, .int .i64 (m + k15)), (7, .int .i64 (i : Int)), (8, .int .i64 pp), (9, .int .i64 (k : Int))]) (fun k w => k ≤ xs.length ∧ (∀ x ∈ xs.take k, x < pp) ∧ K e w G2 ((rb, row [cva, .int .i64 (p + 1 + (i : Int) + 1)] 98) :: L)) (fun k => xs.length - k) 0 ⟨rfl, rfl, rfl, rfl, rfl, rfl, trivial⟩ ⟨Nat.zero_le _, by simp, hK⟩ ?_
   rintro k g w ⟨hk, hka, hK⟩
   refine sq <| sq <| rg <| ?_
   refine vl (mI rfl) <| vl mv <| vl (ln Tryz.underlying26 rfl hx.len) <| vl (lt rfl rfl) <| vl (mB rfl) <| ?_
   refine splP (t := 34) rfl (fun h5 => ?_) (fun h5 => ?_)
   ·have hk' : k < xs.length := by omega
    refine gy rfl <| vl mv <| gy rfl <| vl (mI rfl) <| gy rfl <| vl (ixn1 Tryz.underlying26 Ty.s3 rfl hx.1 rfl om) <| gy rfl <| vl (ldV hK Ty.o3 rfl (hx.at om)) <| gy rfl <| vl (mI rfl) <| gy rfl <| vl (lt rfl rfl) <| vl (pk rfl) <| nl <| thn <| ?_
    refine cdP rfl (fun h6 => ?_) (fun h6 => ?_)
    ·refine sk <| thn <| bk <| rg <| ?_
     refine vl (mI rfl) <| vl (ad rfl rfl) <| vl (aI rfl) <| nl <| bkn <| thn <| ?_
     exact ⟨k + 1, ⟨rfl, rfl, rfl, rfl, rfl, rfl, trivial⟩, ⟨hk', all_snoc hk' hka h6, hK⟩, by omega⟩
    ·have hge : ∀ hk : k < xs.length, ¬ xs[k] < pp := fun _ => h6
     have hins : ([] ++ (xs.take k).drop 0 ++ [pp] ++ (xs.take xs.length).drop k) = xs.take k ++ pp :: xs.drop k := by rw [List.drop_zero, List.nil_append, List.take_length, List.append_assoc]; rfl
     refine ex <| the <| the <| bkh <| thn <| ?_
     refine ct (σ := Value) (fun s => [(0, .pointer (some ⟨rb, 0, none⟩)), (5, s), (6, .int .i64 (m + k15)), (7, .int .i64 (i : Int))]) (fun s w => ∃ A', OS 1 3 s (xs.take k ++ pp :: xs.drop k).length (ints (xs.take k ++ pp :: xs.drop k)) A' ∧ K e w G2 ((rb, row [cva, .int .i64 (p + 1 + (i : Int) + 1)] 98) :: (A' ++ L))) ?_ ?_
     ·skip
      refine rgs (fun w => K e w G2 L) (fun w => K _ w _ _) [U,U,U,U,U,U,U,U,U,U,U,U,U] 13 Ty.mixed rfl rfl (hK.drawn _) ?_
      intro w hK
      have hS : (fun w => K e w G2 L) w := (by first | exact hK.drop1 | exact hK.drop1.drop1 | exact hK.drop1.drop1.drop1 | exact (K.dropL hK).drop1 | exact (K.dropL hK).drop1.drop1 | exact (K.dropL hK.drop1).drop1)
      refine xt (i := 1) rfl kr rfl rfl (fun w hK => mv) hS <| ?_; refine xt (i := 2) rfl kr rfl rfl (fun w hK => (mI rfl)) hS <| ?_; refine xt (i := 3) rfl kr rfl rfl (fun w hK => (slHi (h := k) Tryz.underlying26 Ty.s3 rfl hx.1 rfl om)) hS <| ?_; refine xt (i := 5) rfl kr rfl rfl (fun w hK => (mI rfl)) hS <| ?_; refine xt (i := 8) rfl kr rfl rfl (fun w hK => mv) hS <| ?_; refine xt (i := 9) rfl kr rfl rfl (fun w hK => (mI rfl)) hS <| ?_; refine xt (i := 10) rfl kr rfl rfl (fun w hK => (slLo (l := k) Tryz.underlying26 Ty.s3 rfl hx.1 rfl om)) hS <| ?_
      refine xe2 (i := 0) (j := 6) kr rfl rfl rfl rfl ?_ ?_
      ·refine bs0 hK Tryz.underlying26 Ty.i3 ?_
       intro b44 w hK
       refine xnk ((by first | exact hK.drop1 | exact hK.drop1.drop1 | exact hK.drop1.drop1.drop1 | exact (K.dropL hK).drop1 | exact (K.dropL hK).drop1.drop1 | exact (K.dropL hK.drop1).drop1)) fun hS => ?_
       refine xe2 (i := 4) (j := 6) kr rfl rfl rfl rfl ?_ ?_
       ·skip
        refine apI (A := [(b44, row [] 3)]) (xs := []) hK Tryz.underlying26 Ty.i3 rfl rfl OS.none rfl (hx.slc (Nat.zero_le _) hk) (by simp; omega) fun v1 A1 w ho1 hK => ?_
        refine xnk ((by first | exact hK.drop1 | exact hK.drop1.drop1 | exact hK.drop1.drop1.drop1 | exact (K.dropL hK).drop1 | exact (K.dropL hK).drop1.drop1 | exact (K.dropL hK.drop1).drop1)) fun hS => ?_
        refine xe (i := 6) kr rfl rfl ?_
        refine bsN [.tmp 49] hK Tryz.underlying26 Ty.i3 rfl rfl rfl rfl rfl rfl rfl rfl ?_
        intro b50 w hK
        refine xnk ((by first | exact hK.drop1 | exact hK.drop1.drop1 | exact hK.drop1.drop1.drop1 | exact (K.dropL hK).drop1 | exact (K.dropL hK).drop1.drop1 | exact (K.dropL hK.drop1).drop1)) fun hS => ?_
        refine xe (i := 7) kr rfl rfl ?_
        refine apI1 (A := A1) (xs := [] ++ (xs.take k).drop 0) (k := pp) hK Tryz.underlying26 Ty.i3 rfl rfl ho1 rfl (by simp; omega) fun v2 A2 w ho2 hK => ?_
        refine xnk ((by first | exact hK.drop1 | exact hK.drop1.drop1 | exact hK.drop1.drop1.drop1 | exact (K.dropL hK).drop1 | exact (K.dropL hK).drop1.drop1 | exact (K.dropL hK.drop1).drop1)) fun hS => ?_
        refine xe (i := 11) kr rfl rfl ?_
        refine apI hK Tryz.underlying26 Ty.i3 rfl rfl ho2 rfl (hx.slc hk (Nat.le_refl _)) (by simp; omega) fun v3 A3 w ho3 hK => ?_
        refine xnk ((by first | exact hK.drop1 | exact hK.drop1.drop1 | exact hK.drop1.drop1.drop1 | exact (K.dropL hK).drop1 | exact (K.dropL hK).drop1.drop1 | exact (K.dropL hK.drop1).drop1)) fun hS => ?_
        refine xt (i := 12) rfl kr rfl rfl (fun w hK => asg) hS <| ?_; refine xd kr <| ctn <| ?_
        exact ⟨v3, ⟨rfl, rfl, rfl, rfl, trivial⟩, A3, by rw [← hins]; exact ho3, K.mid (A := A3) (B := [_]) hK⟩
       ·refine bsN [.tmp 49] hK Tryz.underlying26 Ty.i3 rfl rfl rfl rfl rfl rfl rfl rfl ?_
        intro b50 w hK
        refine xnk ((by first | exact hK.drop1 | exact hK.drop1.drop1 | exact hK.drop1.drop1.drop1 | exact (K.dropL hK).drop1 | exact (K.dropL hK).drop1.drop1 | exact (K.dropL hK.drop1).drop1)) fun hS => ?_
        refine xe (i := 4) kr rfl rfl ?_
        refine apI (A := [(b44, row [] 3)]) (xs := []) (K.swp hK) Tryz.underlying26 Ty.i3 rfl rfl OS.none rfl (hx.slc (Nat.zero_le _) hk) (by simp; omega) fun v1 A1 w ho1 hK => ?_
        refine xnk ((by first | exact hK.drop1 | exact hK.drop1.drop1 | exact hK.drop1.drop1.drop1 | exact (K.dropL hK).drop1 | exact (K.dropL hK).drop1.drop1 | exact (K.dropL hK.drop1).drop1)) fun hS => ?_
        refine xe (i := 7) kr rfl rfl ?_
        refine apI1 (A := A1) (xs := [] ++ (xs.take k).drop 0) (k := pp) (K.mid (A := A1) (B := [_]) hK) Tryz.underlying26 Ty.i3 rfl rfl ho1 rfl (by simp; omega) fun v2 A2 w ho2 hK => ?_
        refine xnk ((by first | exact hK.drop1 | exact hK.drop1.drop1 | exact hK.drop1.drop1.drop1 | exact (K.dropL hK).drop1 | exact (K.dropL hK).drop1.drop1 | exact (K.dropL hK.drop1).drop1)) fun hS => ?_
        refine xe (i := 11) kr rfl rfl ?_
        refine apI hK Tryz.underlying26 Ty.i3 rfl rfl ho2 rfl (hx.slc hk (Nat.le_refl _)) (by simp; omega) fun v3 A3 w ho3 hK => ?_
        refine xnk ((by first | exact hK.drop1 | exact hK.drop1.drop1 | exact hK.drop1.drop1.drop1 | exact (K.dropL hK).drop1 | exact (K.dropL hK).drop1.drop1 | exact (K.dropL hK.drop1).drop1)) fun hS => ?_
        refine xt (i := 12) rfl kr rfl rfl (fun w hK => asg) hS <| ?_; refine xd kr <| ctn <| ?_
        exact ⟨v3, ⟨rfl, rfl, rfl, rfl, trivial⟩, A3, by rw [← hins]; exact ho3, K.mid (A := A3) (B := [_]) hK⟩
      ·refine bsN [.tmp 49] hK Tryz.underlying26 Ty.i3 rfl rfl rfl rfl rfl rfl rfl rfl ?_
       intro b50 w hK
       refine xnk ((by first | exact hK.drop1 | exact hK.drop1.drop1 | exact hK.drop1.drop1.drop1 | exact (K.dropL hK).drop1 | exact (K.dropL hK).drop1.drop1 | exact (K.dropL hK.drop1).drop1)) fun hS => ?_
       refine xe (i := 0) kr rfl rfl ?_
       refine bs0 hK Tryz.underlying26 Ty.i3 ?_
       intro b44 w hK
       refine xnk ((by first | exact hK.drop1 | exact hK.drop1.drop1 | exact hK.drop1.drop1.drop1 | exact (K.dropL hK).drop1 | exact (K.dropL hK).drop1.drop1 | exact (K.dropL hK.drop1).drop1)) fun hS => ?_
       refine xe (i := 4) kr rfl rfl ?_
       refine apI (A := [(b44, row [] 3)]) (xs := []) hK Tryz.underlying26 Ty.i3 rfl rfl OS.none rfl (hx.slc (Nat.zero_le _) hk) (by simp; omega) fun v1 A1 w ho1 hK => ?_
       refine xnk ((by first | exact hK.drop1 | exact hK.drop1.drop1 | exact hK.drop1.drop1.drop1 | exact (K.dropL hK).drop1 | exact (K.dropL hK).drop1.drop1 | exact (K.dropL hK.drop1).drop1)) fun hS => ?_
       refine xe (i := 7) kr rfl rfl ?_
       refine apI1 (A := A1) (xs := [] ++ (xs.take k).drop 0) (k := pp) (K.mid (A := A1) (B := [_]) hK) Tryz.underlying26 Ty.i3 rfl rfl ho1 rfl (by simp; omega) fun v2 A2 w ho2 hK => ?_
       refine xnk ((by first | exact hK.drop1 | exact hK.drop1.drop1 | exact hK.drop1.drop1.drop1 | exact (K.dropL hK).drop1 | exact (K.dropL hK).drop1.drop1 | exact (K.dropL hK.drop1).drop1)) fun hS => ?_
       refine xe (i := 11) kr rfl rfl ?_
       refine apI hK Tryz.underlying26 Ty.i3 rfl rfl ho2 rfl (hx.slc hk (Nat.le_refl _)) (by simp; omega) fun v3 A3 w ho3 hK => ?_
       refine xnk ((by first | exact hK.drop1 | exact hK.drop1.drop1 | exact hK.drop1.drop1.drop1 | exact (K.dropL hK).drop1 | exact (K.dropL hK).drop1.drop1 | exact (K.dropL hK.drop1).drop1)) fun hS => ?_
       refine xt (i := 12) rfl kr rfl rfl (fun w hK => asg) hS <| ?_; refine xd kr <| ctn <| ?_
       exact ⟨v3, ⟨rfl, rfl, rfl, rfl, trivial⟩, A3, by rw [← hins]; exact ho3, K.mid (A := A3) (B := [_]) hK⟩
     ·rintro s g w ⟨A', ho', hK⟩
      refine bkn <| thn <| rg <| ?_
      refine vl (mI rfl) <| vl (ad rfl rfl) <| vl (aI rfl) <| nl <| thn <| ?_
      exact ⟨(i + 1, G2, s, xs.take k ++ pp :: xs.drop k, A'), ⟨rfl, rfl, rfl, rfl, trivial⟩, ⟨by simp only; omega, hG1.trans hG2, ho', has.ins hpp hk hka hge hx2, by simp; omega, by
       have : (p + 1 + ((i + 1 : Nat) : Int)) = p + 1 + (i : Int) + 1 := by omega
       simp only; rw [this]; exact hK⟩, by simp only; omega⟩
   ·have hk' : k = xs.length := by omega
    have hge : ∀ hk : k < xs.length, ¬ xs[k] < pp := fun h => by omega
    have hins : ([] ++ (xs.take k).drop 0 ++ [pp] ++ (xs.take xs.length).drop k) = xs.take k ++ pp :: xs.drop k := by rw [List.drop_zero, List.nil_append, List.take_length, List.append_assoc]; rfl
    refine gn rfl <| gn rfl <| gn rfl <| gn rfl <| gn rfl <| gn rfl <| vl (pk rfl) <| nl <| thn <| ?_
    refine cdf rfl ?_
    refine ex <| the <| the <| bkh <| thn <| ?_
    refine ct (σ := Value) (fun s => [(0, .pointer (some ⟨rb, 0, none⟩)), (5, s), (6, .int .i64 (m + k15)), (7, .int .i64 (i : Int))]) (fun s w => ∃ A', OS 1 3 s (xs.take k ++ pp :: xs.drop k).length (ints (xs.take k ++ pp :: xs.drop k)) A' ∧ K e w G2 ((rb, row [cva, .int .i64 (p + 1 + (i : Int) + 1)] 98) :: (A' ++ L))) ?_ ?_
    ·skip
     refine rgs (fun w => K e w G2 L) (fun w => K _ w _ _) [U,U,U,U,U,U,U,U,U,U,U,U,U] 13 Ty.mixed rfl rfl (hK.drawn _) ?_
     intro w hK
     have hS : (fun w => K e w G2 L) w := (by first | exact hK.drop1 | exact hK.drop1.drop1 | exact hK.drop1.drop1.drop1 | exact (K.dropL hK).drop1 | exact (K.dropL hK).drop1.drop1 | exact (K.dropL hK.drop1).drop1)
     refine xt (i := 1) rfl kr rfl rfl (fun w hK => mv) hS <| ?_; refine xt (i := 2) rfl kr rfl rfl (fun w hK => (mI rfl)) hS <| ?_; refine xt (i := 3) rfl kr rfl rfl (fun w hK => (slHi (h := k) Tryz.underlying26 Ty.s3 rfl hx.1 rfl om)) hS <| ?_; refine xt (i := 5) rfl kr rfl rfl (fun w hK => (mI rfl)) hS <| ?_; refine xt (i := 8) rfl kr rfl rfl (fun w hK => mv) hS <| ?_; refine xt (i := 9) rfl kr rfl rfl (fun w hK => (mI rfl)) hS <| ?_; refine xt (i := 10) rfl kr rfl rfl (fun w hK => (slLo (l := k) Tryz.underlying26 Ty.s3 rfl hx.1 rfl om)) hS <| ?_
     refine xe2 (i := 0) (j := 6) kr rfl rfl rfl rfl ?_ ?_
     ·refine bs0 hK Tryz.underlying26 Ty.i3 ?_
      intro b44 w hK
      refine xnk ((by first | exact hK.drop1 | exact hK.drop1.drop1 | exact hK.drop1.drop1.drop1 | exact (K.dropL hK).drop1 | exact (K.dropL hK).drop1.drop1 | exact (K.dropL hK.drop1).drop1)) fun hS => ?_
      refine xe2 (i := 4) (j := 6) kr rfl rfl rfl rfl ?_ ?_
      ·skip
       refine apI (A := [(b44, row [] 3)]) (xs := []) hK Tryz.underlying26 Ty.i3 rfl rfl OS.none rfl (hx.slc (Nat.zero_le _) hk) (by simp; omega) fun v1 A1 w ho1 hK => ?_
       refine xnk ((by first | exact hK.drop1 | exact hK.drop1.drop1 | exact hK.drop1.drop1.drop1 | exact (K.dropL hK).drop1 | exact (K.dropL hK).drop1.drop1 | exact (K.dropL hK.drop1).drop1)) fun hS => ?_
       refine xe (i := 6) kr rfl rfl ?_
       refine bsN [.tmp 49] hK Tryz.underlying26 Ty.i3 rfl rfl rfl rfl rfl rfl rfl rfl ?_
       intro b50 w hK
       refine xnk ((by first | exact hK.drop1 | exact hK.drop1.drop1 | exact hK.drop1.drop1.drop1 | exact (K.dropL hK).drop1 | exact (K.dropL hK).drop1.drop1 | exact (K.dropL hK.drop1).drop1)) fun hS => ?_
       refine xe (i := 7) kr rfl rfl ?_
       refine apI1 (A := A1) (xs := [] ++ (xs.take k).drop 0) (k := pp) hK Tryz.underlying26 Ty.i3 rfl rfl ho1 rfl (by simp; omega) fun v2 A2 w ho2 hK => ?_
       refine xnk ((by first | exact hK.drop1 | exact hK.drop1.drop1 | exact hK.drop1.drop1.drop1 | exact (K.dropL hK).drop1 | exact (K.dropL hK).drop1.drop1 | exact (K.dropL hK.drop1).drop1)) fun hS => ?_
       refine xe (i := 11) kr rfl rfl ?_
       refine apI hK Tryz.underlying26 Ty.i3 rfl rfl ho2 rfl (hx.slc hk (Nat.le_refl _)) (by simp; omega) fun v3 A3 w ho3 hK => ?_
       refine xnk ((by first | exact hK.drop1 | exact hK.drop1.drop1 | exact hK.drop1.drop1.drop1 | exact (K.dropL hK).drop1 | exact (K.dropL hK).drop1.drop1 | exact (K.dropL hK.drop1).drop1)) fun hS => ?_
       refine xt (i := 12) rfl kr rfl rfl (fun w hK => asg) hS <| ?_; refine xd kr <| ctn <| ?_
       exact ⟨v3, ⟨rfl, rfl, rfl, rfl, trivial⟩, A3, by rw [← hins]; exact ho3, K.mid (A := A3) (B := [_]) hK⟩
      ·refine bsN [.tmp 49] hK Tryz.underlying26 Ty.i3 rfl rfl rfl rfl rfl rfl rfl rfl ?_
       intro b50 w hK
       refine xnk ((by first | exact hK.drop1 | exact hK.drop1.drop1 | exact hK.drop1.drop1.drop1 | exact (K.dropL hK).drop1 | exact (K.dropL hK).drop1.drop1 | exact (K.dropL hK.drop1).drop1)) fun hS => ?_
       refine xe (i := 4) kr rfl rfl ?_
       refine apI (A := [(b44, row [] 3)]) (xs := []) (K.swp hK) Tryz.underlying26 Ty.i3 rfl rfl OS.none rfl (hx.slc (Nat.zero_le _) hk) (by simp; omega) fun v1 A1 w ho1 hK => ?_
       refine xnk ((by first | exact hK.drop1 | exact hK.drop1.drop1 | exact hK.drop1.drop1.drop1 | exact (K.dropL hK).drop1 | exact (K.dropL hK).drop1.drop1 | exact (K.dropL hK.drop1).drop1)) fun hS => ?_
       refine xe (i := 7) kr rfl rfl ?_
       refine apI1 (A := A1) (xs := [] ++ (xs.take k).drop 0) (k := pp) (K.mid (A := A1) (B := [_]) hK) Tryz.underlying26 Ty.i3 rfl rfl ho1 rfl (by simp; omega) fun v2 A2 w ho2 hK => ?_
       refine xnk ((by first | exact hK.drop1 | exact hK.drop1.drop1 | exact hK.drop1.drop1.drop1 | exact (K.dropL hK).drop1 | exact (K.dropL hK).drop1.drop1 | exact (K.dropL hK.drop1).drop1)) fun hS => ?_
       refine xe (i := 11) kr rfl rfl ?_
       refine apI hK Tryz.underlying26 Ty.i3 rfl rfl ho2 rfl (hx.slc hk (Nat.le_refl _)) (by simp; omega) fun v3 A3 w ho3 hK => ?_
       refine xnk ((by first | exact hK.drop1 | exact hK.drop1.drop1 | exact hK.drop1.drop1.drop1 | exact (K.dropL hK).drop1 | exact (K.dropL hK).drop1.drop1 | exact (K.dropL hK.drop1).drop1)) fun hS => ?_
       refine xt (i := 12) rfl kr rfl rfl (fun w hK => asg) hS <| ?_; refine xd kr <| ctn <| ?_
       exact ⟨v3, ⟨rfl, rfl, rfl, rfl, trivial⟩, A3, by rw [← hins]; exact ho3, K.mid (A := A3) (B := [_]) hK⟩
     ·refine bsN [.tmp 49] hK Tryz.underlying26 Ty.i3 rfl rfl rfl rfl rfl rfl rfl rfl ?_
      intro b50 w hK
      refine xnk ((by first | exact hK.drop1 | exact hK.drop1.drop1 | exact hK.drop1.drop1.drop1 | exact (K.dropL hK).drop1 | exact (K.dropL hK).drop1.drop1 | exact (K.dropL hK.drop1).drop1)) fun hS => ?_
      refine xe (i := 0) kr rfl rfl ?_
      refine bs0 hK Tryz.underlying26 Ty.i3 ?_
      intro b44 w hK
      refine xnk ((by first | exact hK.drop1 | exact hK.drop1.drop1 | exact hK.drop1.drop1.drop1 | exact (K.dropL hK).drop1 | exact (K.dropL hK).drop1.drop1 | exact (K.dropL hK.drop1).drop1)) fun hS => ?_
      refine xe (i := 4) kr rfl rfl ?_
      refine apI (A := [(b44, row [] 3)]) (xs := []) hK Tryz.underlying26 Ty.i3 rfl rfl OS.none rfl (hx.slc (Nat.zero_le _) hk) (by simp; omega) fun v1 A1 w ho1 hK => ?_
      refine xnk ((by first | exact hK.drop1 | exact hK.drop1.drop1 | exact hK.drop1.drop1.drop1 | exact (K.dropL hK).drop1 | exact (K.dropL hK).drop1.drop1 | exact (K.dropL hK.drop1).drop1)) fun hS => ?_
      refine xe (i := 7) kr rfl rfl ?_
      refine apI1 (A := A1) (xs := [] ++ (xs.take k).drop 0) (k := pp) (K.mid (A := A1) (B := [_]) hK) Tryz.underlying26 Ty.i3 rfl rfl ho1 rfl (by simp; omega) fun v2 A2 w ho2 hK => ?_
      refine xnk ((by first | exact hK.drop1 | exact hK.drop1.drop1 | exact hK.drop1.drop1.drop1 | exact (K.dropL hK).drop1 | exact (K.dropL hK).drop1.drop1 | exact (K.dropL hK.drop1).drop1)) fun hS => ?_
      refine xe (i := 11) kr rfl rfl ?_
      refine apI hK Tryz.underlying26 Ty.i3 rfl rfl ho2 rfl (hx.slc hk (Nat.le_refl _)) (by simp; omega) fun v3 A3 w ho3 hK => ?_
      refine xnk ((by first | exact hK.drop1 | exact hK.drop1.drop1 | exact hK.drop1.drop1.drop1 | exact (K.dropL hK).drop1 | exact (K.dropL hK).drop1.drop1 | exact (K.dropL hK.drop1).drop1)) fun hS => ?_
      refine xt (i := 12) rfl kr rfl rfl (fun w hK => asg) hS <| ?_; refine xd kr <| ctn <| ?_
      exact ⟨v3, ⟨rfl, rfl, rfl, rfl, trivial⟩, A3, by rw [← hins]; exact ho3, K.mid (A := A3) (B := [_]) hK⟩
    ·rintro s g w ⟨A', ho', hK⟩
     refine bkn <| thn <| rg <| ?_
     refine vl (mI rfl) <| vl (ad rfl rfl) <| vl (aI rfl) <| nl <| thn <| ?_
     exact ⟨(i + 1, G2, s, xs.take k ++ pp :: xs.drop k, A'), ⟨rfl, rfl, rfl, rfl, trivial⟩, ⟨by simp only; omega, hG1.trans hG2, ho', has.ins hpp hk hka hge hx2, by simp; omega, by
      have : (p + 1 + ((i + 1 : Nat) : Int)) = p + 1 + (i : Int) + 1 := by omega
      simp only; rw [this]; exact hK⟩, by simp only; omega⟩
 ·have hi' : (i : Int) = m + k15 := by simp only at hc; omega
  refine ex <| the <| the <| bkh <| thn <| sq <| rg <| ?_
  refine vl mv <| vl asg <| nl <| thn <| rt <| p1r (a := _) rfl <| ?_
  exact ⟨G1, xs, A, _, hG1, ho, has, by omega, by omega, by omega, by omega, hK⟩

end
end Go.Proofs.YthblmldlkipidaaGreatDoor