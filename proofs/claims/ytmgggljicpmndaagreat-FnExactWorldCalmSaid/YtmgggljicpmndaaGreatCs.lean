/- Contracts of the functions that draw leases, keys and scans. Contracts of the functions that draw nodes, rings and worlds. Contracts of the functions that draw events. Contracts of the functions that draw worlds. Contracts of the functions that draw rings. Contracts of the functions that draw spoilt rings. Drawn worlds, some of them wrong: what is drawn is a world. The specification's rounds of a ring, and quiet periods; the law on their items. Conditions: those that each row states. -/
import Derived.Test.YtmgggljicpmndaaGreatSl
import Derived.Test.YtmgggljicpmndaaGreatDr
import Derived.Test.YtmgggljicpmndaaGreatCm
import Derived.Test.YtmgggljicpmndaaGreatWlM
import Derived.Test.YtmgggljicpmndaaGreatSt
namespace Go.Proofs.YtmgggljicpmndaaGreat
open Go Go.Ro Tryz
section
variable {e w : World} {G : View} {L A : Own} {cva v u t : Value} {code xs ys ks ts : List Int} {ls : List Ls} {n p : Int} {rb : Nat}
end
open Go Go.Ro Tryz
section
variable {e w : World} {G : View} {L A : Own} {v u cva : Value} {code xs ys : List Int} {ls ms : List Ls} {rs qs : List Rn} {zs ts : List It} {W W' : Wv} {wd wd' : Wd} {a b k id other p m : Int} {i j bk o rb : Nat}
end
open Go Go.Ro Tryz
section
variable {e w : World} {G : View} {L A : Own} {v u cva : Value} {code xs ys : List Int} {rs qs : List Rn} {W W' : Wv} {wd wd' : Wd} {a b c k kd p : Int} {rb : Nat}
end
open Go Go.Ro Tryz
section
variable {e w : World} {G : View} {L A : Own} {v u cva : Value} {code xs ys : List Int} {rs qs : List Rn} {W W' : Wv} {wd wd' : Wd} {a b c k kd p : Int} {rb : Nat}
end
open Go Go.Ro Tryz
section
variable {e w : World} {G : View} {L A : Own} {v u cva : Value} {code xs ys : List Int} {rs qs : List Rn} {a b c k kd p : Int} {rb : Nat}
end
open Go Go.Ro Tryz
section
variable {e w : World} {G : View} {L A : Own} {v u cva : Value} {code xs ys : List Int} {rs qs : List Rn} {a b c k kd p : Int} {rb t t' : Nat}
end
open Go Go.Ro Tryz
section
variable {e w : World} {G : View} {L A : Own} {v u cva : Value} {xs ys code : List Int} {ls ms : List Ls} {rs qs : List Rn} {zs ts : List It} {W W' : Wv} {wd wd' : Wd} {a b c k kd id other p : Int} {i j bk o rb : Nat}
end
open Go Go.Ro Tryz
section
variable {e w : World} {G : View} {L A : Own} {v u cva : Value} {xs ys code : List Int} {rs qs : List Rn} {W W' : Wv} {wd wd' : Wd} {id other k : Int} {i j : Nat}
theorem l3SameNode_c (hK : K e w G L) {x y : Rn} (hx : IntS G x.2.2.1 x.2.2.2) (hy : IntS G y.2.2.1 y.2.2.2) : Ret prog 86 #[.agg (rc x).toArray, .agg (rc y).toArray] w (fun r w' => r = .bool (dec (nd x = nd y)) ∧ K e w' G L) := by
 have hle := hx.le
 refine enter1 (args := [.agg (rc x).toArray, .agg (rc y).toArray]) func86 rfl rfl rfl rfl ?_
 refine sq <| rg <| ?_
 refine bx hK rfl rfl ?_
 intro b2 w hK
 refine bx hK rfl rfl ?_
 intro b3 w hK
 refine vl (aB rfl) <| nl <| thn <| sq <| sq <| rg <| vl (fa underlying79 rfl Ty.z3 rfl) <| vl (ldO hK Ty.o3 1 rfl rfl rfl) <| vl (fa underlying79 rfl Ty.z3 rfl) <| vl (ldO hK Ty.o3 0 rfl rfl rfl) <| vl (ne rfl rfl) <| vl (mB rfl) <| ?_
 refine splP (t := 11) rfl (fun h1 => ?_) fun h1 => ?_
 ·refine gn rfl <| gn rfl <| gn rfl <| gn rfl <| gn rfl <| vl (pk rfl) <| vl (mB rfl) <| gn rfl <| gn rfl <| gn rfl <| gn rfl <| gn rfl <| gn rfl <| gn rfl <| vl (pk rfl) <| nl <| thn <| ?_
  refine cdt rfl ?_
  refine sq <| rg <| ?_
  refine vl (aB rfl) <| nl <| thn <| rt <| thr <| p1r (a := .bool _) rfl <| ?_
  exact ⟨by rw [dec_f fun h => h1 (congrArg (fun n : Nd => n.1) h)], hK.drop1.drop1⟩
 ·have h1' : x.1 = y.1 := Classical.not_not.1 h1
  refine gy rfl <| vl (fa underlying79 rfl Ty.z3 rfl) <| gy rfl <| vl (ldO hK Ty.o3 1 rfl rfl rfl) <| gy rfl <| vl (fa underlying79 rfl Ty.z3 rfl) <| gy rfl <| vl (ldO hK Ty.o3 0 rfl rfl rfl) <| gy rfl <| vl (ne rfl rfl) <| vl (pk rfl) <| vl (mB rfl) <| ?_
  refine splP (t := 18) rfl (fun h2 => ?_) fun h2 => ?_
  ·refine gn rfl <| gn rfl <| gn rfl <| gn rfl <| gn rfl <| gn rfl <| gn rfl <| vl (pk rfl) <| nl <| thn <| ?_
   refine cdt rfl ?_
   refine sq <| rg <| ?_
   refine vl (aB rfl) <| nl <| thn <| rt <| thr <| p1r (a := .bool _) rfl <| ?_
   exact ⟨by rw [dec_f fun h => h2 (congrArg (fun n : Nd => n.2.1) h)], hK.drop1.drop1⟩
  ·have h2' : x.2.1 = y.2.1 := Classical.not_not.1 h2
   refine gy rfl <| vl (fa underlying79 rfl Ty.z25 rfl) <| gy rfl <| vl (ldO hK Ty.o25 1 rfl rfl rfl) <| gy rfl <| vl (ln underlying25 rfl hx.len) <| gy rfl <| vl (fa underlying79 rfl Ty.z25 rfl) <| gy rfl <| vl (ldO hK Ty.o25 0 rfl rfl rfl) <| gy rfl <| vl (ln underlying25 rfl hy.len) <| gy rfl <| vl (ne rfl rfl) <| vl (pk rfl) <| nl <| thn <| ?_
   refine cdP rfl (fun h3 => ?_) fun h3 => ?_
   ·refine sq <| rg <| ?_
    refine vl (aB rfl) <| nl <| thn <| rt <| thr <| p1r (a := .bool _) rfl <| ?_
    exact ⟨by rw [dec_f fun h => h3 (by have : x.2.2.2 = y.2.2.2 := congrArg (fun n : Nd => n.2.2) h; rw [this])], hK.drop1.drop1⟩
   ·have hln : x.2.2.2.length = y.2.2.2.length := by omega
    refine sk <| thn <| sq <| sq <| rg <| ?_
    refine vl (aI rfl) <| nl <| thn <| bk <| ?_
    refine lp (σ := Nat) (fun i => [(2, .pointer (some ⟨b2, 0, none⟩)), (3, .pointer (some ⟨b3, 0, none⟩)), (5, .int .i64 (i : Int))]) (fun i w => i ≤ x.2.2.2.length ∧ x.2.2.2.take i = y.2.2.2.take i ∧ K e w G ((b3, row (rc y) 79) :: (b2, row (rc x) 79) :: L)) (fun i => x.2.2.2.length - i) 0 ⟨rfl, rfl, rfl, trivial⟩ ⟨Nat.zero_le _, rfl, hK⟩ ?_
    rintro i g w ⟨hi, ha, hK⟩
    refine sq <| sq <| rg <| ?_
    refine vl (mI rfl) <| vl (fa underlying79 rfl Ty.z25 rfl) <| vl (ldO hK Ty.o25 1 rfl rfl rfl) <| vl (ln underlying25 rfl hx.len) <| vl (lt rfl rfl) <| nl <| thn <| ?_
    refine cdP rfl (fun hc => ?_) fun hc => ?_
    ·have hi' : i < x.2.2.2.length := by omega
     have hi2 : i < y.2.2.2.length := by omega
     refine sk <| thn <| sq <| bk <| sq <| ?_
     refine rgq (fun w => K e w G ((b3, row (rc y) 79) :: (b2, row (rc x) 79) :: L)) Ty.mixed kr (hK.drawn _) ?_
     refine qv (fun w hK => (fa underlying79 rfl Ty.z25 rfl)) <| qldO Ty.o25 1 rfl rfl rfl <| qv (fun w hK => (mI rfl)) <| qv (fun w hK => (ixm1 (m := i) underlying25 Ty.s3 rfl hx.1 rfl om om)) <| qldV Ty.o3 rfl (hx.at om) <| qv (fun w hK => (fa underlying79 rfl Ty.z25 rfl)) <| qldO Ty.o25 0 rfl rfl rfl <| qv (fun w hK => (mI rfl)) <| qv (fun w hK => (ixm1 (m := i) underlying25 Ty.s3 rfl hy.1 rfl om om)) <| qldV Ty.o3 rfl (hy.at om) <| qv (fun w hK => (ne rfl rfl)) <| qn <| ?_
     intro w hK
     refine thn <| ?_
     refine cdP rfl (fun h4 => ?_) fun h4 => ?_
     ·refine sq <| rg <| ?_
      refine vl (aB rfl) <| nl <| thn <| rt <| bkr <| thr <| thr <| bkr <| thr <| p1r (a := .bool _) rfl <| ?_
      exact ⟨by rw [dec_f fun h => h4 (by have : x.2.2.2 = y.2.2.2 := congrArg (fun n : Nd => n.2.2) h; simp only [this])], hK.drop1.drop1⟩
     ·have h4' := Classical.not_not.1 h4
      refine sk <| bkn <| thn <| rg <| ?_
      refine vl (mI rfl) <| vl (ad rfl rfl) <| vl (aI rfl) <| nl <| thn <| ?_
      exact ⟨i + 1, ⟨rfl, rfl, rfl, trivial⟩, ⟨hi', by rw [List.take_succ_eq_append_getElem hi', List.take_succ_eq_append_getElem hi2, ha, h4'], hK⟩, by omega⟩
    ·have hi' : i = x.2.2.2.length := by omega
     subst hi'
     rw [List.take_length, hln, List.take_length] at ha
     refine ex <| the <| the <| bkh <| thn <| sq <| rg <| ?_
     refine vl (aB rfl) <| nl <| thn <| rt <| p1r (a := .bool _) rfl <| ?_
     exact ⟨by rw [dec_t (nd_eq h1' h2' ha)], hK.drop1.drop1⟩
theorem l3Same_c (hK : K e w G L) (hv : RngS G v rs) (hu : RngS G u qs) : Ret prog 56 #[v, u] w (fun r w' => r = .bool (dec (rgl rs = rgl qs)) ∧ K e w' G L) := by
 have hs := hv.sl
 have hs2 := hu.sl
 have hle := hs.le
 refine enter1 (args := [v, u]) func56 rfl rfl rfl rfl ?_
 refine sq <| rg <| ?_
 refine vl (aB rfl) <| nl <| thn <| sq <| sq <| rg <| vl mv <| vl (ln underlying31 rfl hs.len) <| vl mv <| vl (ln underlying31 rfl hs2.len) <| vl (ne rfl rfl) <| nl <| thn <| ?_
 refine cdP rfl (fun h0 => ?_) fun h0 => ?_
 ·refine sq <| rg <| ?_
  refine vl (aB rfl) <| nl <| thn <| rt <| thr <| p1r (a := .bool _) rfl <| ?_
  exact ⟨by rw [dec_f fun h => h0 (by have := congrArg List.length h; rw [rg_len, rg_len] at this; omega)], hK⟩
 ·have hln : rs.length = qs.length := by omega
  refine sk <| thn <| sq <| sq <| rg <| ?_
  refine vl (aI rfl) <| nl <| thn <| bk <| ?_
  refine lp (σ := Nat) (fun i => [(0, v), (1, u), (5, .int .i64 (i : Int))]) (fun i w => i ≤ rs.length ∧ rgl (rs.take i) = rgl (qs.take i) ∧ K e w G L) (fun i => rs.length - i) 0 ⟨rfl, rfl, rfl, trivial⟩ ⟨Nat.zero_le _, rfl, hK⟩ ?_
  rintro i g w ⟨hi, ha, hK⟩
  refine sq <| sq <| rg <| ?_
  refine vl (mI rfl) <| vl mv <| vl (ln underlying31 rfl hs.len) <| vl (lt rfl rfl) <| nl <| thn <| ?_
  refine cdP rfl (fun hc => ?_) fun hc => ?_
  ·have hi' : i < rs.length := by omega
   have hi2 : i < qs.length := by omega
   refine sk <| thn <| sq <| bk <| sq <| ?_
   refine rgq (fun w => K _ w _ _) Ty.mixed kr (hK.drawn _) ?_
   refine qv (fun w hK => mv) <| qv (fun w hK => (mI rfl)) <| qv (fun w hK => (ixn underlying31 Ty.s79 rfl hs.1 rfl om)) <| qv (fun w hK => (lsF hK Ty.a79 Ty.s79 rfl hs om)) <| qv (fun w hK => mv) <| qv (fun w hK => (mI rfl)) <| qv (fun w hK => (ixn underlying31 Ty.s79 rfl hs2.1 rfl om)) <| qv (fun w hK => (lsF hK Ty.a79 Ty.s79 rfl hs2 om)) <| ?_
   refine qcl call86 rfl (fun w hK => l3SameNode_c hK (hv.at hi') (hu.at hi2)) ?_
   refine qv (fun w hK => (ntB rfl)) <| qn <| ?_
   intro w hK
   refine thn <| ?_
   refine cdB rfl (fun h1 => ?_) fun h1 => ?_
   ·have h1' := not_dec (Eq.mp (Bool.not_eq_true' _) h1)
    refine sq <| rg <| ?_
    refine vl (aB rfl) <| nl <| thn <| rt <| bkr <| thr <| thr <| bkr <| thr <| p1r (a := .bool _) rfl <| ?_
    exact ⟨by rw [dec_f fun h => h1' (by rw [← rg_get hi', ← rg_get hi2]; simp only [h])], hK⟩
   ·have h1' := of_dec (Eq.mp (Bool.not_eq_false' _) h1)
    refine sk <| bkn <| thn <| rg <| ?_
    refine vl (mI rfl) <| vl (ad rfl rfl) <| vl (aI rfl) <| nl <| thn <| ?_
    exact ⟨i + 1, ⟨rfl, rfl, rfl, trivial⟩, ⟨hi', by rw [rgl_take_succ hi', rgl_take_succ hi2, ha, h1'], hK⟩, by omega⟩
  ·have hi' : i = rs.length := by omega
   subst hi'
   rw [List.take_length, hln, List.take_length] at ha
   refine ex <| the <| the <| bkh <| thn <| sq <| rg <| ?_
   refine vl (aB rfl) <| nl <| thn <| rt <| p1r (a := .bool _) rfl <| ?_
   exact ⟨by rw [dec_t ha], hK⟩
theorem l3Ids_c (hK : K e w G L) (hv : RngS G v rs) (hl : rs.length ≤ 100000) : Ret prog 20 #[v] w (fun r w' => ∃ A, OS 1 3 r (ids (rgl rs)).length (ints (ids (rgl rs))) A ∧ K e w' G (A ++ L)) := by
 have hs := hv.sl
 rw [ids_rg]
 refine enter1 (args := [v]) func20 rfl rfl rfl rfl ?_
 refine sq <| rg <| ?_
 refine vl asg <| nl <| thn <| sq <| rg <| ?_
 refine bs0 hK underlying25 Ty.i3 ?_
 intro b5 w hK
 refine vl asg <| nl <| thn <| sq <| sq <| rg <| vl (aI rfl) <| nl <| thn <| bk <| ?_
 refine lp (σ := Nat × Value × Own) (fun s => [(0, v), (3, s.2.1), (4, .int .i64 (s.1 : Int))]) (fun s w => s.1 ≤ rs.length ∧ OS 1 3 s.2.1 ((rs.take s.1).map (·.1)).length (ints ((rs.take s.1).map (·.1))) s.2.2 ∧ K e w G (s.2.2 ++ L)) (fun s => rs.length - s.1) (0, .slice (some ⟨b5, 0, none⟩) 0 0, [(b5, row [] 3)]) ⟨rfl, rfl, rfl, trivial⟩ ⟨Nat.zero_le _, OS.none, hK⟩ ?_
 clear hK
 rintro ⟨i, u, A⟩ g w ⟨hi, ho, hK⟩
 simp only at hi ho hK
 refine sq <| sq <| rg <| ?_
 refine vl (mI rfl) <| vl mv <| vl (ln underlying31 rfl hs.len) <| vl (lt rfl rfl) <| nl <| thn <| ?_
 refine cdP rfl (fun hc => ?_) fun hc => ?_
 ·have hi' : i < rs.length := by simp only at hc; omega
  refine sk <| thn <| sq <| bk <| rg <| ?_
  refine vl mv <| vl mv <| vl (mI rfl) <| vl (ixm (m := i) underlying31 Ty.s79 rfl hs.1 rfl om om) <| vl (fe underlying79 rfl Ty.z3 rfl hs.1 om) <| vl (ldV hK Ty.o3 rfl (hs.cell om 0 rfl)) <| ?_
  refine bsN [.tmp 17] hK underlying25 Ty.i3 rfl rfl rfl rfl rfl rfl rfl rfl ?_
  intro b18 w hK
  refine apI1 (k := rs[i].1) hK underlying25 Ty.i3 rfl rfl ho rfl (by simp; omega) fun v' A' w ho hK => ?_
  refine vl asg <| nl <| bkn <| thn <| rg <| vl (mI rfl) <| vl (ad rfl rfl) <| vl (aI rfl) <| nl <| thn <| ?_
  exact ⟨(i + 1, v', A'), ⟨rfl, rfl, rfl, trivial⟩, ⟨hi', by rw [List.take_succ_eq_append_getElem hi', List.map_append]; exact ho, hK⟩, by simp only; omega⟩
 ·have hi' : i = rs.length := by simp only at hc; omega
  subst hi'
  refine ex <| the <| the <| bkh <| thn <| sq <| rg <| ?_
  refine vl mv <| vl asg <| nl <| thn <| rt <| p1r (a := _) rfl <| ?_
  rw [List.take_length] at ho
  exact ⟨A, ho, hK⟩
theorem l4Round_c (hK : K e w G L) (hv : RngS G v rs) (hsf : RgSafe (rgl rs)) :
  Ret prog 55 #[v] w (fun r w' => ∃ G' rs', VLe G G' ∧ RngS G' r rs' ∧ rgl rs' = rnd (rgl rs) ∧ K e w' G' L) := by
 have hlen : rs.length ≤ 10 := by rw [← rg_len]; exact hsf.1.1
 have hil : (ids (rgl rs)).length = rs.length := by rw [ids_len, rg_len]
 refine enter1 (args := [v]) func55 rfl rfl rfl rfl ?_
 refine sq <| rg <| ?_
 refine vl asg <| nl <| thn <| sq <| sq <| rg <| vl (aI rfl) <| nl <| thn <| bk <| ?_
 refine lp (σ := Nat × View × Value × List Rn) (fun s => [(0, s.2.2.1), (3, .int .i64 (s.1 : Int))]) (fun s w => s.1 ≤ (ids (rgl rs)).length ∧ VLe G s.2.1 ∧ RngS s.2.1 s.2.2.1 s.2.2.2 ∧ rgl s.2.2.2 = rndR (rgl rs) ((ids (rgl rs)).take s.1) ∧ K e w s.2.1 L) (fun s => (ids (rgl rs)).length - s.1) (0, G, v, rs) ⟨rfl, rfl, trivial⟩ ⟨Nat.zero_le _, VLe.refl _, hv, rfl, hK⟩ ?_
 clear hK hv
 rintro ⟨n, G3, v3, rs3⟩ g w ⟨hn, hG3, hv3, hr3, hK⟩
 simp only at hn hG3 hv3 hr3 hK
 have hl3 : rs3.length = rs.length := by rw [← rg_len, ← ids_len, hr3, rndR_ids, hil]
 have hs3 := hv3.sl
 refine sq <| sq <| rg <| ?_
 refine vl (mI rfl) <| vl mv <| vl (ln underlying31 rfl hs3.len) <| vl (lt rfl rfl) <| nl <| thn <| ?_
 refine cdP rfl (fun hc => ?_) fun hc => ?_
 ·have hn' : n < (ids (rgl rs)).length := by simp only at hc; omega
  have hsf3 : RgSafe (rgl rs3) := by rw [hr3]; exact rndR_safe _ hsf
  have hi3 : (ids (rgl rs))[n] ∈ ids (rgl rs3) := by rw [hr3, rndR_ids]; exact List.getElem_mem _
  obtain ⟨m, hm⟩ := NdA.of hv3 hsf3.1 hi3
  have hmn : m = n := by
   have e1 := hm.hfx
   have e2 : ids (rgl rs3) = ids (rgl rs) := by rw [hr3, rndR_ids]
   rw [fx_ids e2, fx_ix hsf.1 (by rw [← ids_len]; exact hn')] at e1
   exact e1.symm
  subst hmn
  refine sk <| thn <| sq <| bk <| rg <| ?_
  refine vl mv <| vl (mI rfl) <| ?_
  refine cl call85 rfl (l4Stabilize_c hK hv3 hsf3 hm) ?_
  rintro v4 w ⟨G4, rs4, hG4, hv4, hr4, hK⟩
  refine vl asg <| nl <| bkn <| thn <| rg <| vl (mI rfl) <| vl (ad rfl rfl) <| vl (aI rfl) <| nl <| thn <| ?_
  exact ⟨(m + 1, G4, v4, rs4), ⟨rfl, rfl, trivial⟩, ⟨hn', hG3.trans hG4, hv4, by rw [hr4, hr3, rnd_take hn'], hK⟩, by simp only; omega⟩
 ·have hn' : n = (ids (rgl rs)).length := by simp only at hc; omega
  subst hn'
  rw [List.take_length] at hr3
  refine ex <| the <| the <| bkh <| thn <| sq <| rg <| ?_
  refine vl mv <| vl asg <| nl <| thn <| rt <| p1r (a := _) rfl <| ?_
  exact ⟨G3, rs3, hG3, hv3, hr3, hK⟩
theorem l4Calm_c (hK : K e w G L) (hv : RngS G v rs) (hsf : RgSafe (rgl rs)) :
  Ret prog 18 #[v] w (fun r w' => ∃ G' rs', VLe G G' ∧ RngS G' r rs' ∧ rgl rs' = idl (ids (rgl rs)) ∧ K e w' G' L) := by
 rw [← calR_ideal hsf]
 refine enter1 (args := [v]) func18 rfl rfl rfl rfl ?_
 refine sq <| rg <| ?_
 refine vl asg <| nl <| thn <| sq <| rg <| vl (aB rfl) <| nl <| thn <| sq <| bk <| ?_
 refine lp (σ := Bool × View × Value × List Rn) (fun s => [(0, s.2.2.1), (3, .bool s.1)]) (fun s w => VLe G s.2.1 ∧ RngS s.2.1 s.2.2.1 s.2.2.2 ∧ RgSafe (rgl s.2.2.2) ∧ calR (rgl s.2.2.2) = calR (rgl rs) ∧ (s.1 = false → rnd (rgl s.2.2.2) = rgl s.2.2.2) ∧ K e w s.2.1 L) (fun s => 2 * msr (rgl s.2.2.2) + (if s.1 then 1 else 0)) (true, G, v, rs) ⟨rfl, rfl, trivial⟩ ⟨VLe.refl _, hv, hsf, rfl, (fun h => by cases h), hK⟩ ?_
 clear hK hv
 rintro ⟨mo, G2, v2, rs2⟩ g w ⟨hG2, hv2, hs2, hc2, hf2, hK⟩
 simp only at hG2 hv2 hs2 hc2 hf2 hK
 refine sq <| sq <| rg <| ?_
 refine vl (mB rfl) <| nl <| thn <| ?_
 refine cdB rfl (fun h0 => ?_) fun h0 => ?_
 ·subst h0
  refine sk <| thn <| bk <| sq <| rg <| ?_
  refine vl mv <| ?_
  refine cl call55 rfl (l4Round_c hK hv2 hs2) ?_
  rintro v3 w ⟨G3, rs3, hG3, hv3, hr3, hK⟩
  refine vl asg <| nl <| thn <| sq <| rg <| vl mv <| vl mv <| ?_
  refine cl call56 rfl (l3Same_c hK hv3 (hv2.mono hG3)) ?_
  rintro _ w ⟨rfl, hK⟩
  refine vl (ntB rfl) <| vl (aB rfl) <| nl <| thn <| rg <| vl mv <| vl asg <| nl <| bkn <| thn <| ?_
  by_cases he : rgl rs3 = rgl rs2
  ·exact ⟨(false, G3, v3, rs3), ⟨rfl, congrArg Value.bool (by rw [dec_t he]; rfl), trivial⟩, ⟨hG2.trans hG3, hv3, by rw [hr3]; exact rnd_safe hs2, by rw [he]; exact hc2, fun _ => by rw [he, ← hr3, he], hK⟩, by simp only [he]; simp⟩
  ·have hst := calR_step hs2 (fun h => he (hr3.trans h))
   exact ⟨(true, G3, v3, rs3), ⟨rfl, congrArg Value.bool (by rw [dec_f he]; rfl), trivial⟩, ⟨hG2.trans hG3, hv3, by rw [hr3]; exact rnd_safe hs2, by rw [hr3, ← hst.1]; exact hc2, (fun h => by cases h), hK⟩, by simp only [hr3]; have := hst.2; simp; omega⟩
 ·subst h0
  have hfx := hf2 rfl
  refine ex <| the <| the <| bkh <| thn <| sq <| rg <| ?_
  refine vl mv <| ?_
  refine cl call54 rfl (l3Copy_v hK hv2 hs2.1) ?_
  rintro v3 w ⟨G3, rs3, hG3, hr3, hv3, hK⟩
  refine vl asg <| nl <| thn <| rt <| p1r (a := _) rfl <| ?_
  exact ⟨G3, rs3, hG2.trans hG3, hv3, by rw [hr3, ← hc2, calR_same hfx], hK⟩
end
end Go.Proofs.YtmgggljicpmndaaGreat
