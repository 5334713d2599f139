/- Contracts of the functions on ideal rings. Contracts of the specification's steps of leases. Contracts of the specification's renewal of leases. The program's operations on leases. The program's leases renewed; copies of worlds. The program's rings that a node leaves or joins. The steps of the program's rings. The program's repair of a ring: by one node, by all, until nothing changes. The program's rounds of a ring, and quiet periods. Conditions: those that each row states. -/
import Derived.Test.YtmgggljicpmndaaGreatEr
import Derived.Test.YtmgggljicpmndaaGreatLeM
import Derived.Test.YtmgggljicpmndaaGreatPlM
import Derived.Test.YtmgggljicpmndaaGreatOx
import Derived.Test.YtmgggljicpmndaaGreatWv
namespace Go.Proofs.YtmgggljicpmndaaGreat
open Go Go.Ro Tryz
section
variable {e w : World} {G : View} {L A : Own} {v u : Value} {xs ys : List Int} {ls ms : List Ls} {rs qs : List Rn} {zs ts : List It} {W W' : Wv} {wd wd' : Wd} {a b k id other : Int} {i j bk o : Nat}
theorem slicesEqual_c (hK : K e w G L) (hv : IntS G v xs) (hu : IntS G u ys) : Ret prog 102 #[v, u] w (fun r w' => r = .bool (decide (xs = ys)) ∧ K e w' G L) := by
 have hle := hv.le
 refine enter1 (args := [v, u]) func102 rfl rfl rfl rfl ?_
 refine sq <| rg <| ?_
 refine vl (aB rfl) <| nl <| thn <| sq <| sq <| rg <| vl mv <| vl (ln underlying25 rfl hv.len) <| vl mv <| vl (ln underlying25 rfl hu.len) <| vl (ne rfl rfl) <| nl <| thn <| ?_
 refine cdP rfl (fun h0 => ?_) fun h0 => ?_
 ·refine sq <| rg <| ?_
  refine vl (aB rfl) <| nl <| thn <| rt <| thr <| p1r (a := .bool _) rfl <| ?_
  exact ⟨by rw [decide_eq_false fun h => h0 (by rw [h])], hK⟩
 ·have hln : xs.length = ys.length := by omega
  refine sk <| thn <| sq <| sq <| rg <| ?_
  refine vl mv <| vl (ln underlying25 rfl hv.len) <| vl (mI rfl) <| nl <| thn <| bk <| ?_
  refine lp (σ := Nat) (fun i => [(0, v), (1, u), (12, .int .i64 (xs.length : Int)), (13, .int .i64 (i : Int))]) (fun i w => i ≤ xs.length ∧ xs.take i = ys.take i ∧ K e w G L) (fun i => xs.length - i) 0 ⟨rfl, rfl, rfl, rfl, trivial⟩ ⟨Nat.zero_le _, rfl, hK⟩ ?_
  rintro i g w ⟨hi, ha, hK⟩
  refine sq <| rg <| ?_
  refine vl (lt rfl rfl) <| nl <| thn <| sq <| ?_
  refine cdP rfl (fun hc => ?_) fun hc => ?_
  ·have hi' : i < xs.length := by omega
   have hi2 : i < ys.length := by omega
   refine sk <| thn <| sq <| bk <| sq <| rg <| ?_
   refine vl (mI rfl) <| vl (aI rfl) <| nl <| thn <| sq <| ?_
   refine rgq (fun w => K _ w _ _) Ty.mixed kr (hK.drawn _) ?_
   refine qv (fun w hK => mv) <| qv (fun w hK => (mI rfl)) <| qv (fun w hK => (ixn1 underlying25 Ty.s3 rfl hv.1 rfl om)) <| qldV Ty.o3 rfl (hv.at om) <| qv (fun w hK => mv) <| qv (fun w hK => (mI rfl)) <| qv (fun w hK => (ixn1 underlying25 Ty.s3 rfl hu.1 rfl om)) <| qldV Ty.o3 rfl (hu.at om) <| qv (fun w hK => (ne rfl rfl)) <| qn <| ?_
   intro w hK
   refine thn <| ?_
   refine cdP rfl (fun h1 => ?_) fun h1 => ?_
   ·refine sq <| rg <| ?_
    refine vl (aB rfl) <| nl <| thn <| rt <| bkr <| thr <| thr <| bkr <| thr <| p1r (a := .bool _) rfl <| ?_
    exact ⟨by rw [decide_eq_false fun h => h1 (by subst h; rfl)], hK⟩
   ·have h1' := Decidable.not_not.1 h1
    refine sk <| bkn <| thn <| rg <| ?_
    refine vl (ad rfl rfl) <| vl (mI rfl) <| nl <| thn <| ?_
    exact ⟨i + 1, ⟨rfl, rfl, rfl, rfl, trivial⟩, ⟨hi', by rw [List.take_succ_eq_append_getElem hi', List.take_succ_eq_append_getElem hi2, ha, h1'], hK⟩, by omega⟩
  ·have hi' : i = xs.length := by omega
   subst hi'
   rw [List.take_length, hln, List.take_length] at ha
   refine ex <| the <| the <| bkh <| thn <| sq <| rg <| ?_
   refine vl (aB rfl) <| nl <| thn <| rt <| p1r (a := .bool _) rfl <| ?_
   exact ⟨by rw [decide_eq_true ha], hK⟩
theorem sameRing1_c (hK : K e w G L) {x y : Rn} (hx : IntS G x.2.2.1 x.2.2.2) (hy : IntS G y.2.2.1 y.2.2.2) : Ret prog 101 #[.agg (rc x).toArray, .agg (rc y).toArray] w (fun r w' => r = .bool (dec (nd x = nd y)) ∧ K e w' G L) := by
 refine enter1 (args := [.agg (rc x).toArray, .agg (rc y).toArray]) func101 rfl rfl rfl rfl ?_
 refine sq <| rg <| ?_
 refine bx hK rfl rfl ?_
 intro b2 w hK
 refine bx hK rfl rfl ?_
 intro b3 w hK
 refine vl (aB rfl) <| nl <| thn <| sq <| rg <| vl (fa underlying79 rfl Ty.z3 rfl) <| vl (ldO hK Ty.o3 1 rfl rfl rfl) <| vl (fa underlying79 rfl Ty.z3 rfl) <| vl (ldO hK Ty.o3 0 rfl rfl rfl) <| vl (eq rfl rfl) <| vl (mB rfl) <| ?_
 refine splP (t := 10) rfl (fun h1 => ?_) fun h1 => ?_
 ·refine gy rfl <| vl (fa underlying79 rfl Ty.z3 rfl) <| gy rfl <| vl (ldO hK Ty.o3 1 rfl rfl rfl) <| gy rfl <| vl (fa underlying79 rfl Ty.z3 rfl) <| gy rfl <| vl (ldO hK Ty.o3 0 rfl rfl rfl) <| gy rfl <| vl (eq rfl rfl) <| vl (pk rfl) <| vl (mB rfl) <| ?_
  refine splP (t := 17) rfl (fun h2 => ?_) fun h2 => ?_
  ·refine gy rfl <| vl (fa underlying79 rfl Ty.z25 rfl) <| gy rfl <| vl (ldO hK Ty.o25 1 rfl rfl rfl) <| gy rfl <| vl (fa underlying79 rfl Ty.z25 rfl) <| gy rfl <| vl (ldO hK Ty.o25 0 rfl rfl rfl) <| gy rfl <| ?_
   refine cl call102 rfl (slicesEqual_c hK hx hy) ?_
   rintro _ w ⟨rfl, hK⟩
   refine vl (pk rfl) <| vl (aB rfl) <| nl <| thn <| rt <| p1r (a := .bool _) rfl <| ?_
   refine ⟨?_, hK.drop1.drop1⟩
   exact congrArg Value.bool ((dec_dec (p := x.2.2.2 = y.2.2.2)).symm.trans (dec_congr ⟨fun h => nd_eq h1 h2 h, fun h => congrArg (fun n : Nd => n.2.2) h⟩))
  ·refine gn rfl <| gn rfl <| gn rfl <| gn rfl <| gn rfl <| vl (pk rfl) <| vl (aB rfl) <| nl <| thn <| rt <| p1r (a := .bool _) rfl <| ?_
   exact ⟨by rw [dec_f fun h => h2 (congrArg (fun n : Nd => n.2.1) h)], hK.drop1.drop1⟩
 ·refine gn rfl <| gn rfl <| gn rfl <| gn rfl <| gn rfl <| vl (pk rfl) <| vl (mB rfl) <| gn rfl <| gn rfl <| gn rfl <| gn rfl <| gn rfl <| vl (pk rfl) <| vl (aB rfl) <| nl <| thn <| ?_
  refine rt <| p1r (a := .bool _) rfl <| ?_
  exact ⟨by rw [dec_f fun h => h1 (congrArg (fun n : Nd => n.1) h)], hK.drop1.drop1⟩
theorem equalFuncN_c {F : FuncId} (hf : ∀ args w, (callFunc F args).run prog w = .ok (.enter F args) w) (hK : K e w G L) (hv : RngS G v rs) (hu : RngS G u qs)
  (hp : ∀ (x y : Rn) (w : World) (L : Own), x ∈ rs → y ∈ qs → K e w G L → Ret prog F ([Value.agg (rc x).toArray, Value.agg (rc y).toArray] ++ []).toArray w (fun r w' => r = .bool (dec (nd x = nd y)) ∧ K e w' G L)) :
  Ret prog 100 #[v, u, .func (.func F) #[] #[]] w (fun r w' => r = .bool (dec (rgl rs = rgl qs)) ∧ K e w' G L) := by
 have hs := hv.sl
 have hs2 := hu.sl
 have hle := hs.le
 refine enter1 (args := [v, u, .func (.func F) #[] #[]]) func100 rfl rfl rfl rfl ?_
 refine sq <| rg <| ?_
 refine vl (aB rfl) <| nl <| thn <| sq <| sq <| rg <| vl mv <| vl (ln underlying31 rfl hs.len) <| vl mv <| vl (ln underlying31 rfl hs2.len) <| vl (ne rfl rfl) <| nl <| thn <| ?_
 refine cdP rfl (fun h0 => ?_) fun h0 => ?_
 ·refine sq <| rg <| ?_
  refine vl (aB rfl) <| nl <| thn <| rt <| thr <| p1r (a := .bool _) rfl <| ?_
  exact ⟨by rw [dec_f fun h => h0 (by have := congrArg List.length h; rw [rg_len, rg_len] at this; omega)], hK⟩
 ·have hln : rs.length = qs.length := by omega
  refine sk <| thn <| sq <| sq <| rg <| ?_
  refine vl mv <| vl (ln underlying31 rfl hs.len) <| vl (mI rfl) <| nl <| thn <| bk <| ?_
  refine lp (σ := Nat) (fun i => [(1, u), (2, .func (.func F) #[] #[]), (15, v), (16, .int .i64 (rs.length : Int)), (17, .int .i64 (i : Int))]) (fun i w => i ≤ rs.length ∧ rgl (rs.take i) = rgl (qs.take i) ∧ K e w G L) (fun i => rs.length - i) 0 ⟨rfl, rfl, rfl, rfl, rfl, trivial⟩ ⟨Nat.zero_le _, rfl, hK⟩ ?_
  rintro i g w ⟨hi, ha, hK⟩
  refine sq <| rg <| ?_
  refine vl (lt rfl rfl) <| nl <| thn <| sq <| ?_
  refine cdP rfl (fun hc => ?_) fun hc => ?_
  ·have hi' : i < rs.length := by omega
   have hi2 : i < qs.length := by omega
   have hx := hv.at hi'
   have hy := hu.at hi2
   refine sk <| thn <| sq <| bk <| sq <| rg <| ?_
   refine vl (mI rfl) <| vl (ixn underlying31 Ty.s79 rfl hs.1 rfl om) <| vl (lsF hK Ty.a79 Ty.s79 rfl hs om) <| ?_
   refine al hK Ty.i79 rfl ?_
   intro b8 w hK
   refine vl (aI rfl) <| ?_
   refine soS hK Ty.i79 0 rfl rfl rfl rfl (allc rfl (allc rfl (allc hx.1.one rfl))) rfl ?_
   intro w hK
   refine nl <| thn <| sq <| rg <| vl mv <| vl (mI rfl) <| vl (ixn underlying31 Ty.s79 rfl hs2.1 rfl om) <| vl (lsF hK Ty.a79 Ty.s79 rfl hs2 om) <| ?_
   refine al hK Ty.i79 rfl ?_
   intro b9 w hK
   refine soS hK Ty.i79 0 rfl rfl rfl rfl (allc rfl (allc rfl (allc hy.1.one rfl))) rfl ?_
   intro w hK
   refine nl <| thn <| sq <| rg <| vl mv <| vl (lsO hK Ty.a79 Ty.s79 1 rfl rfl rfl) <| vl (lsO hK Ty.a79 Ty.s79 0 rfl rfl rfl) <| ?_
   refine cf (cap := ([] : List Value)) (hf) rfl rfl (hp rs[i] qs[i] w _ (List.getElem_mem hi') (List.getElem_mem hi2) hK) ?_
   rintro _ w ⟨rfl, hK⟩
   refine vl (ntB rfl) <| nl <| thn <| ?_
   refine cdB rfl (fun h1 => ?_) fun h1 => ?_
   ·have h1' := not_dec (Eq.mp (Bool.not_eq_true' _) h1)
    refine sq <| rg <| ?_
    refine vl (aB rfl) <| nl <| thn <| rt <| bkr <| thr <| thr <| bkr <| thr <| p1r (a := .bool _) rfl <| ?_
    exact ⟨by rw [dec_f fun h => h1' (by rw [← rg_get hi', ← rg_get hi2]; simp only [h])], hK.drop1.drop1⟩
   ·have h1' := of_dec (Eq.mp (Bool.not_eq_false' _) h1)
    refine sk <| bkn <| thn <| rg <| ?_
    refine vl (ad rfl rfl) <| vl (mI rfl) <| nl <| thn <| ?_
    exact ⟨i + 1, ⟨rfl, rfl, rfl, rfl, rfl, trivial⟩, ⟨hi', by rw [rgl_take_succ hi', rgl_take_succ hi2, ha, h1'], hK.drop1.drop1⟩, by omega⟩
  ·have hi' : i = rs.length := by omega
   subst hi'
   rw [List.take_length, hln, List.take_length] at ha
   refine ex <| the <| the <| bkh <| thn <| sq <| rg <| ?_
   refine vl (aB rfl) <| nl <| thn <| rt <| p1r (a := .bool _) rfl <| ?_
   exact ⟨by rw [dec_t ha], hK⟩
theorem implSameRing_c (hK : K e w G L) (hv : RngS G v rs) (hu : RngS G u qs) : Ret prog 76 #[v, u] w (fun r w' => r = .bool (dec (rgl rs = rgl qs)) ∧ K e w' G L) := by
 refine enter1 (args := [v, u]) func76 rfl rfl rfl rfl ?_
 refine sq <| rg <| ?_
 refine vl (aB rfl) <| nl <| thn <| sq <| rg <| vl mv <| vl mv <| ?_
 refine cl call100 rfl (equalFuncN_c call101 hK hv hu (fun x y w L hx hy hK => sameRing1_c hK (hv.aft x hx) (hu.aft y hy))) ?_
 rintro _ w ⟨rfl, hK⟩
 refine vl (aB rfl) <| nl <| thn <| rt <| p1r (a := .bool _) rfl <| ?_
 exact ⟨rfl, hK⟩
end
open Go Go.Ro Tryz
section
variable {e w : World} {G : View} {L A : Own} {v u : Value} {xs ys : List Int} {ls ms : List Ls} {fr at' to un key now : Int} {i j : Nat} {x : Ls}
end
open Go Go.Ro Tryz
section
variable {e w : World} {G : View} {L A : Own} {v u : Value} {ls ms : List Ls} {ow now un : Int} {i j : Nat} {x : Ls}
end
open Go Go.Ro Tryz
section
variable {e w : World} {G : View} {L A : Own} {v u : Value} {ls ms : List Ls} {k fr at' to un key now ow : Int} {i : Nat} {a0 a1 : Addr} {o : Option (List Ls)} {ok : Prop}
theorem lc_len (x : Ls) : (lc x).length = 3 := rfl
theorem mk2 {p : Int → Prop} {a b : Int} (h : p a ∧ p b) : ∀ x ∈ [a, b], p x := by
 intro x hx
 simp only [List.mem_cons, List.not_mem_nil, or_false] at hx
 rcases hx with rfl | rfl
 ·exact h.1
 ·exact h.2
end
open Go Go.Ro Tryz
section
variable {e w : World} {G : View} {L A : Own} {v u : Value} {ls ms : List Ls} {k fr at' to un key now ow : Int} {i : Nat} {a0 a1 : Addr}
end
open Go Go.Ro Tryz
section
variable {e w : World} {G : View} {L A : Own} {v u : Value} {xs ys : List Int} {rs qs : List Rn} {a b k id other at' : Int} {i sb bk : Nat}
end
open Go Go.Ro Tryz
section
variable {e w : World} {G : View} {L A : Own} {v u : Value} {rs qs : List Rn} {a b k id other at' : Int} {i sb bk : Nat}
end
open Go Go.Ro Tryz
section
variable {e w : World} {G : View} {L A : Own} {v u : Value} {rs qs : List Rn} {id other k : Int} {i j : Nat}
theorem try_c {t b6 : Nat} {x : Value} {bb : Bool} (h1 : one x = true) (hK : K e w G ((b6, row [v] t) :: L)) :
  Ret prog 115 #[x, .bool bb, .pointer (some ⟨b6, 0, none⟩)] w (fun r w' => r = .bool bb ∧ K e w' G ((b6, row [if bb then x else v] t) :: L)) := by
 refine enter1 (args := [x, .bool bb, .pointer (some ⟨b6, 0, none⟩)]) func115 rfl rfl rfl rfl ?_
 refine sq <| rg <| ?_
 refine vl (aB rfl) <| nl <| thn <| sq <| sq <| rg <| vl (mB rfl) <| nl <| thn <| ?_
 refine cdB rfl (fun hc => ?_) fun hc => ?_
 ·subst hc
  refine rg <| ?_
  refine vl mv <| ?_
  refine so hK Ty.i31 rfl 0 rfl rfl rfl h1 rfl ?_
  intro w hK
  refine nl <| thn <| sq <| rg <| vl (mB rfl) <| vl (aB rfl) <| nl <| thn <| rt <| p1r (a := .bool _) rfl <| ?_
  exact ⟨rfl, hK⟩
 ·subst hc
  refine sk <| thn <| sq <| rg <| ?_
  refine vl (mB rfl) <| vl (aB rfl) <| nl <| thn <| rt <| p1r (a := .bool _) rfl <| ?_
  exact ⟨rfl, hK⟩
end
open Go Go.Ro Tryz
section
variable {e w : World} {G : View} {L A : Own} {v u : Value} {rs qs : List Rn} {W W' : Wv} {wd wd' : Wd} {id other k : Int} {i j : Nat}
theorem rnd_take {r : List Nd} {ks : List Int} {n : Nat} (h : n < ks.length) : rndR r (ks.take (n + 1)) = stabR (rndR r (ks.take n)) ks[n] := by
 rw [List.take_succ_eq_append_getElem h]; unfold rndR; rw [List.foldl_append]; rfl
end
end Go.Proofs.YtmgggljicpmndaaGreat
