/- Contracts of the functions on worlds: who owns a key. Contracts of the functions that make new rings and worlds. Contracts of the steps of a scan and of whole scans. Contracts of the functions that hold worlds against each other. Conditions: those that each row states. -/
import Derived.Test.YtmgggljicpmndaaGreatDoorBs
import Derived.Test.YtmgggljicpmndaaGreatDoorSk
namespace Go.Proofs.YtmgggljicpmndaaGreatDoor
open Go Go.Ro Tryz
section
variable {e w : World} {G : View} {L A : Own} {v u : Value} {xs ys : List Int} {ls : List Ls} {rs : List Rn} {zs : List It} {W : Wv} {wd : Wd} {a b k id other : Int} {i j bk o : Nat}
theorem live_c (hK : K e w G L) (hc : ∀ j u, (wc W)[j]? = some u → cellV G ⟨bk, o + j, none⟩ = some u) (hr : RngS G W.r rs) :
  Ret prog 118 #[.pointer (some ⟨bk, o, none⟩), .int .i64 k] w (fun r w' => r = .bool (decide (k ∈ ids (rgl rs))) ∧ K e w' G L) := by
 refine enter1 (args := [.pointer (some ⟨bk, o, none⟩), .int .i64 k]) func118 rfl rfl rfl rfl ?_
 refine sq <| rg <| ?_
 refine vl (aB rfl) <| nl <| thn <| sq <| rg <| vl mv <| vl (nc rfl) <| vl (fa underlying31 rfl Ty.z25 rfl) <| vl (ldV hK Ty.o25 rfl (hc 1 _ rfl)) <| vl (mI rfl) <| ?_
 refine cl call134 rfl (nodeAt_c hK hr) ?_
 rintro _ w ⟨rfl, hK⟩
 refine vl (nePn underlying143 rfl rfl) <| vl (aB rfl) <| nl <| thn <| rt <| p1r (a := .bool _) rfl <| ?_
 exact ⟨congrArg Value.bool (Bool.eq_iff_iff.2 (by rw [nAt_some]; simp)), hK⟩
theorem ownerA_c (hK : K e w G L) (hc : ∀ j u, (wc W)[j]? = some u → cellV G ⟨bk, o + j, none⟩ = some u) (hW : WdS G lc W wd rs) (hok : LsOk wd.leases) :
  Ret prog 125 #[.pointer (some ⟨bk, o, none⟩), .int .i64 k] w (fun r w' => ∃ n, r = .int .i64 n ∧ (Pt k → n = own wd k) ∧ (¬ Pt k → n = -1) ∧ K e w' G L) := by
 have hr := hW.ring
 have hl := hW.leases
 have e1 := hW.now
 have e2 := hW.rg
 refine enter1 (args := [.pointer (some ⟨bk, o, none⟩), .int .i64 k]) func125 rfl rfl rfl rfl ?_
 refine sq <| rg <| ?_
 refine vl (aI rfl) <| nl <| thn <| sq <| rg <| vl mv <| vl (nc rfl) <| vl (fa underlying31 rfl Ty.z26 rfl) <| vl (ldV hK Ty.o26 rfl (hc 2 _ rfl)) <| vl (mI rfl) <| ?_
 refine cl call165 rfl (LeaseOf_c hK hl) ?_
 rintro _ w ⟨⟨b, x, rfl, hb, hx⟩, hK⟩
 refine vl mv <| vl (ext rfl rfl) <| vl (ext rfl rfl) <| ?_
 refine al hK Ty.i101 rfl ?_
 intro b5 w hK
 refine soS hK Ty.i101 0 rfl rfl rfl rfl rfl rfl ?_
 intro w hK
 refine vl (aB rfl) <| nl <| thn <| sq <| sq <| ?_
 refine rgq (fun w => K _ w _ _) Ty.mixed kr (hK.drawn _) ?_
 refine qv (fun w hK => (mB rfl)) <| qv (fun w hK => (ntB rfl)) <| qv (fun w hK => (mB rfl)) <| ?_
 refine qspl (t := 18) rfl (fun h1 => ?_) fun h1 => ?_
 ·have h1' := Eq.mp (Bool.not_eq_true' _) h1
  refine qgn rfl <| qgn rfl <| qgn rfl <| qgn rfl <| qgn rfl <| qgn rfl <| qgn rfl <| qv (fun w hK => (pk rfl)) <| qv (fun w hK => (mB rfl)) <| qgn rfl <| qgn rfl <| qgn rfl <| qgn rfl <| qgn rfl <| qv (fun w hK => (pk rfl)) <| qn <| ?_
  intro w hK
  refine thn <| ?_
  refine cdt rfl ?_
  refine sq <| rg <| ?_
  refine vl (aI rfl) <| nl <| thn <| rt <| thr <| p1r (a := .int _ _) rfl <| ?_
  exact ⟨_, rfl, (fun h => absurd (hb.2 ⟨hok, h⟩) (by rw [h1']; simp)), fun _ => rfl, hK.drop1⟩
 ·have h1' := hb.1 (Eq.mp (Bool.not_eq_false' _) h1)
  obtain rfl := hx h1'.1 h1'.2
  refine qgy rfl <| qv (fun w hK => (fa underlying101 rfl Ty.z3 rfl)) <| qgy rfl <| qldO Ty.o3 0 rfl rfl rfl <| qgy rfl <| qv (fun w hK => mv) <| qgy rfl <| qv (fun w hK => (nc rfl)) <| qgy rfl <| qv (fun w hK => (fa underlying31 rfl Ty.z3 rfl)) <| qgy rfl <| qldV Ty.o3 rfl (hc 0 _ rfl) <| qgy rfl <| qv (fun w hK => (lt rfl rfl)) <| qv (fun w hK => (pk rfl)) <| qv (fun w hK => (mB rfl)) <| ?_
  refine qsplP (t := 27) rfl (fun h2 => ?_) fun h2 => ?_
  ·refine qgn rfl <| qgn rfl <| qgn rfl <| qgn rfl <| qgn rfl <| qv (fun w hK => (pk rfl)) <| qn <| ?_
   intro w hK
   refine thn <| ?_
   refine cdt rfl ?_
   refine sq <| rg <| ?_
   refine vl (aI rfl) <| nl <| thn <| rt <| thr <| p1r (a := .int _ _) rfl <| ?_
   exact ⟨_, rfl, fun _ => (if_pos (.inl (by omega))).symm, fun h => absurd h1'.2 h, hK.drop1⟩
  ·refine qgy rfl <| qv (fun w hK => mv) <| qgy rfl <| qv (fun w hK => (fa underlying101 rfl Ty.z3 rfl)) <| qgy rfl <| qldO Ty.o3 0 rfl rfl rfl <| qgy rfl <| ?_
   refine qcl call118 rfl (fun w hK => live_c hK hc hr) ?_
   refine qgy rfl <| qv (fun w hK => (nt rfl)) <| qv (fun w hK => (pk rfl)) <| qn <| ?_
   intro w hK
   refine thn <| ?_
   refine cdP rfl (fun h3 => ?_) fun h3 => ?_
   ·refine sq <| rg <| ?_
    refine vl (aI rfl) <| nl <| thn <| rt <| thr <| p1r (a := .int _ _) rfl <| ?_
    exact ⟨_, rfl, fun _ => (if_pos (.inr (by rw [← e2]; exact h3))).symm, fun h => absurd h1'.2 h, hK.drop1⟩
   ·refine sk <| thn <| sq <| rg <| ?_
    refine vl (fa underlying101 rfl Ty.z3 rfl) <| vl (ldO hK Ty.o3 0 rfl rfl rfl) <| vl (aI rfl) <| nl <| thn <| rt <| p1r (a := .int _ _) rfl <| ?_
    exact ⟨_, rfl, fun _ => (if_neg (by rw [← e2]; rintro (h | h); omega; exact h3 h)).symm, fun h => absurd h1'.2 h, hK.drop1⟩
theorem WdS.one (hW : WdS G lc W wd rs) : (wc W).all Ro.one = true := allc rfl (allc hW.ring.sl.1.one (allc hW.leases.1.one (allc hW.items.1.one (allc rfl (allc hW.told.1.one (allc hW.since.1.one rfl))))))
theorem l51Owner_c (hK : K e w G L) (hW : WdS G lc W wd rs) (h0 : 0 < wd.leases.length) : Ret prog 100 #[.agg (wc W).toArray, .int .i64 k] w (fun r w' => r = .int .i64 (own wd k) ∧ K e w' G L) := by
 have hr := hW.ring
 have hl := hW.leases
 have e1 := hW.now
 have e2 := hW.rg
 have hlt := lAt_lt (ls := wd.leases) (k := k) h0
 have hat := lsAt_eq hlt
 refine enter1 (args := [.agg (wc W).toArray, .int .i64 k]) func100 rfl rfl rfl rfl ?_
 refine sq <| rg <| ?_
 refine bx hK rfl rfl ?_
 intro b2 w hK
 refine vl (aI rfl) <| nl <| thn <| sq <| ?_
 refine ct (σ := Nat) (fun s => [(2, .pointer (some ⟨b2, 0, none⟩)), (5, .pointer (some ⟨s, 0, none⟩))]) (fun s w => K e w G ((s, row (lc (lsAt wd.leases k)) 101) :: (b2, row (wc W) 31) :: L)) ?_ ?_
 ·skip
  refine rgs (fun w => K e w G ((b2, row (wc W) 31) :: L)) (fun w => K _ w _ _) [U,U,U,U,U,U,U,U,U,U] 10 Ty.mixed rfl rfl (hK.drawn _) ?_
  intro w hK
  have hS : (fun w => K e w G ((b2, row (wc W) 31) :: L)) w := K.sl hK
  refine xt (i := 0) rfl kr rfl rfl (fun w hK => (fa underlying31 rfl Ty.z26 rfl)) hS <| xt (i := 1) rfl kr rfl rfl (fun w hK => (ldO hK Ty.o26 0 rfl rfl rfl)) hS <| xt (i := 2) rfl kr rfl rfl (fun w hK => (fa underlying31 rfl Ty.z26 rfl)) hS <| xt (i := 3) rfl kr rfl rfl (fun w hK => (ldO hK Ty.o26 0 rfl rfl rfl)) hS <| xt (i := 4) rfl kr rfl rfl (fun w hK => (mI rfl)) hS <| ?_
  refine xe2 (i := 5) (j := 8) kr rfl rfl rfl rfl ?_ ?_
  ·skip
   refine cl call141 rfl (l12At_c hK hl) ?_
   rintro _ w ⟨rfl, hK⟩
   refine xnk (K.sl hK) fun hS => ?_
   refine xt (i := 6) rfl kr rfl rfl (fun w hK => (ixm (m := lAt wd.leases k) underlying26 Ty.s101 rfl hl.1 rfl om om)) hS <| xt (i := 7) rfl kr rfl rfl (fun w hK => (lsF hK Ty.a101 Ty.s101 rfl hl om)) hS <| ?_
   refine xe (i := 8) kr rfl rfl ?_
   refine al hK Ty.i101 rfl ?_
   intro b5 w hK
   refine xnk (K.sl hK) fun hS => ?_
   refine xe (i := 9) kr rfl rfl ?_
   refine soS hK Ty.i101 0 rfl rfl rfl rfl rfl rfl ?_
   intro w hK
   refine xnk (K.sl hK) fun hS => ?_
   refine xd kr <| ctn <| ?_
   exact ⟨b5, ⟨rfl, rfl, trivial⟩, by rw [← hat]; exact hK⟩
  ·refine al hK Ty.i101 rfl ?_
   intro b5 w hK
   refine xnk (K.sl hK) fun hS => ?_
   refine xe (i := 5) kr rfl rfl ?_
   refine cl call141 rfl (l12At_c hK hl) ?_
   rintro _ w ⟨rfl, hK⟩
   refine xnk (K.sl hK) fun hS => ?_
   refine xt (i := 6) rfl kr rfl rfl (fun w hK => (ixm (m := lAt wd.leases k) underlying26 Ty.s101 rfl hl.1 rfl om om)) hS <| xt (i := 7) rfl kr rfl rfl (fun w hK => (lsF hK Ty.a101 Ty.s101 rfl hl om)) hS <| ?_
   refine xe (i := 9) kr rfl rfl ?_
   refine soS hK Ty.i101 0 rfl rfl rfl rfl rfl rfl ?_
   intro w hK
   refine xnk (K.sl hK) fun hS => ?_
   refine xd kr <| ctn <| ?_
   exact ⟨b5, ⟨rfl, rfl, trivial⟩, by rw [← hat]; exact hK⟩
 ·rintro b5 g w hK
  refine thn <| sq <| sq <| rg <| ?_
  refine vl (fa underlying101 rfl Ty.z3 rfl) <| vl (ldO hK Ty.o3 0 rfl rfl rfl) <| vl (fa underlying31 rfl Ty.z3 rfl) <| vl (ldO hK Ty.o3 1 rfl rfl rfl) <| vl (lt rfl rfl) <| vl (mB rfl) <| ?_
  refine splP (t := 19) rfl (fun h2 => ?_) fun h2 => ?_
  ·refine gn rfl <| gn rfl <| gn rfl <| gn rfl <| gn rfl <| gn rfl <| vl (pk rfl) <| nl <| thn <| ?_
   refine cdt rfl ?_
   refine sq <| rg <| ?_
   refine vl (aI rfl) <| nl <| thn <| rt <| thr <| p1r (a := .int _ _) rfl <| ?_
   refine ⟨?_, hK.drop1.drop1⟩
   exact congrArg (Value.int .i64) (if_pos (.inl (by omega))).symm
  ·refine gy rfl <| vl (fa underlying31 rfl Ty.z25 rfl) <| gy rfl <| vl (ldO hK Ty.o25 1 rfl rfl rfl) <| gy rfl <| vl (fa underlying101 rfl Ty.z3 rfl) <| gy rfl <| vl (ldO hK Ty.o3 0 rfl rfl rfl) <| gy rfl <| ?_
   refine cl call98 rfl (l3Find_c hK hr) ?_
   rintro _ w ⟨rfl, hK⟩
   refine gy rfl <| vl (lt rfl rfl) <| vl (pk rfl) <| nl <| thn <| ?_
   refine cdP rfl (fun h3 => ?_) fun h3 => ?_
   ·have h3' : (lsAt wd.leases k).2.1 ∉ ids (rgl rs) := fun h => by have := fI_ge.2 h; omega
    refine sq <| rg <| ?_
    refine vl (aI rfl) <| nl <| thn <| rt <| thr <| p1r (a := .int _ _) rfl <| ?_
    refine ⟨?_, hK.drop1.drop1⟩
    exact congrArg (Value.int .i64) (if_pos (.inr (by rw [← e2]; exact h3'))).symm
   ·have h3' : (lsAt wd.leases k).2.1 ∈ ids (rgl rs) := fI_ge.1 (by omega)
    refine sk <| thn <| sq <| rg <| ?_
    refine vl (fa underlying101 rfl Ty.z3 rfl) <| vl (ldO hK Ty.o3 0 rfl rfl rfl) <| vl (aI rfl) <| nl <| thn <| rt <| p1r (a := .int _ _) rfl <| ?_
    refine ⟨?_, hK.drop1.drop1⟩
    exact congrArg (Value.int .i64) (if_neg (by rw [← e2]; rintro (h | h); omega; exact h h3')).symm
end
open Go Go.Ro Tryz
section
variable {e w : World} {G : View} {L A : Own} {v u : Value} {xs ys : List Int} {ls : List Ls} {rs : List Rn} {zs : List It} {W : Wv} {wd : Wd} {a b k id other : Int} {i j bk o : Nat}
theorem specNodesValid_c (hK : K e w G L) (hv : IntS G v xs) : Ret prog 96 #[v] w (fun r w' => r = .bool (dec (NdsOk xs)) ∧ K e w' G L) := by
 have hle := hv.le
 refine enter1 (args := [v]) func96 rfl rfl rfl rfl ?_
 refine sq <| rg <| ?_
 refine vl (aB rfl) <| nl <| thn <| sq <| rg <| vl mv <| vl (ln underlying22 rfl hv.len) <| ?_
 refine cl call104 rfl (l6In_c (C := fun w => K _ w _ _) hK) ?_
 rintro _ w ⟨rfl, hK⟩
 refine vl (mB rfl) <| ?_
 refine splP (t := 6) rfl (fun h1 => ?_) fun h1 => ?_
 ·refine gy rfl <| vl mv <| gy rfl <| ?_
  refine cl call76 rfl (l1Nodes_c hK (by assumption)) ?_
  rintro _ w ⟨rfl, hK⟩
  refine vl (pk rfl) <| vl (aB rfl) <| nl <| thn <| rt <| p1r (a := .bool _) rfl <| ?_
  exact ⟨congrArg Value.bool (dec_congr ⟨fun h => ⟨by omega, h⟩, fun h => h.2⟩), hK⟩
 ·refine gn rfl <| gn rfl <| vl (pk rfl) <| vl (aB rfl) <| nl <| thn <| rt <| p1r (a := .bool _) rfl <| ?_
  exact ⟨by rw [dec_f fun h => h1 (by have := h.1; omega)], hK⟩
theorem implNodesValid_c (hK : K e w G L) (hv : IntS G v xs) : Ret prog 113 #[v] w (fun r w' => r = .bool (dec (NdsOk xs)) ∧ K e w' G L) := by
 have hle := hv.le
 refine enter1 (args := [v]) func113 rfl rfl rfl rfl ?_
 refine sq <| rg <| ?_
 refine vl (aB rfl) <| nl <| thn <| sq <| rg <| vl mv <| vl (ln underlying22 rfl hv.len) <| ?_
 refine cl call89 rfl (inRange_c (C := fun w => K _ w _ _) hK) ?_
 rintro _ w ⟨rfl, hK⟩
 refine vl (mB rfl) <| ?_
 refine splP (t := 6) rfl (fun h1 => ?_) fun h1 => ?_
 ·refine gy rfl <| vl mv <| gy rfl <| ?_
  refine cl call86 rfl (ascendingPositions_c hK (by assumption)) ?_
  rintro _ w ⟨rfl, hK⟩
  refine vl (pk rfl) <| vl (aB rfl) <| nl <| thn <| rt <| p1r (a := .bool _) rfl <| ?_
  exact ⟨congrArg Value.bool (dec_congr ⟨fun h => ⟨by omega, h⟩, fun h => h.2⟩), hK⟩
 ·refine gn rfl <| gn rfl <| vl (pk rfl) <| vl (aB rfl) <| nl <| thn <| rt <| p1r (a := .bool _) rfl <| ?_
  exact ⟨by rw [dec_f fun h => h1 (by have := h.1; omega)], hK⟩
set_option maxHeartbeats 1000000 in
theorem l3Ideal_c (hK : K e w G L) (hv : IntS G v xs) (hl : xs.length ≤ 100000) : Ret prog 97 #[v] w (fun r w' => ∃ G' rs A, VLe G G' ∧ OR G' 98 r rs A ∧ rgl rs = idl xs ∧ K e w' G' (A ++ L)) := by
 have hle := hv.le
 refine enter1 (args := [v]) func97 rfl rfl rfl rfl ?_
 refine sq <| rg <| ?_
 refine vl asg <| nl <| thn <| sq <| rg <| ?_
 refine bs0 hK underlying25 Ty.i98 ?_
 intro b6 w hK
 refine vl asg <| nl <| thn <| sq <| rg <| vl mv <| vl (ln underlying22 rfl hv.len) <| vl (aI rfl) <| nl <| thn <| sq <| sq <| rg <| vl (aI rfl) <| nl <| thn <| ?_
 refine bk <| ?_
 refine lp (σ := Nat × View × Value × List Rn × Own) (fun s => [(0, v), (3, s.2.2.1), (4, .int .i64 (xs.length : Int)), (5, .int .i64 (s.1 : Int))]) (fun s w => s.1 ≤ xs.length ∧ VLe G s.2.1 ∧ rgl s.2.2.2.1 = idTo xs s.1 ∧ OR s.2.1 98 s.2.2.1 s.2.2.2.1 s.2.2.2.2 ∧ K e w s.2.1 (s.2.2.2.2 ++ L)) (fun s => xs.length - s.1) (0, G, .slice (some ⟨b6, 0, none⟩) 0 0, [], [(b6, row [] 98)]) ⟨rfl, rfl, rfl, rfl, trivial⟩ ⟨Nat.zero_le _, VLe.refl _, rfl, ⟨OS.none, fun _ h => by cases h⟩, hK⟩ ?_
 rintro ⟨i, G1, u, rs, A⟩ g w ⟨hi, hG1, hrg, ho, hK⟩
 simp only at hi hG1 hrg ho hK
 have hrl : rs.length = i := by rw [← rg_len, hrg]; simp [idTo]
 refine sq <| sq <| rg <| ?_
 refine vl (mI rfl) <| vl (mI rfl) <| vl (lt rfl rfl) <| nl <| thn <| ?_
 refine cdP rfl (fun hc => ?_) fun hc => ?_
 ·have hi' : i < xs.length := by simp only at hc; omega
  have hv1 := hv.mono hG1
  have m1 := md (a := (i : Int) + xs.length - 1) (n := xs.length) (by omega)
  have m2 := md (a := (i : Int) + 1) (n := xs.length) (by omega)
  have m3 := md (a := (i : Int) + 2) (n := xs.length) (by omega)
  refine sk <| thn <| sq <| bk <| ?_
  refine rgs (fun w => K e w G1 L) (fun w => K _ w _ _) [U,U,U,U,U,U,U,U,U,U,U,U,U,U,U,U,U,U,U,U,U,U,U,U,U,U,U,U,U,U,U,U,U] 33 Ty.mixed rfl rfl (hK.drawn _) ?_
  intro w hK
  have hS : (fun w => K e w G1 L) w := K.sl hK
  refine xt (i := 0) rfl kr rfl rfl (fun w hK => mv) hS <| xt (i := 1) rfl kr rfl rfl (fun w hK => mv) hS <| xt (i := 2) rfl kr rfl rfl (fun w hK => (mI rfl)) hS <| xt (i := 3) rfl kr rfl rfl (fun w hK => (ixn1 underlying22 Ty.s3 rfl hv1.1 rfl om)) hS <| xt (i := 4) rfl kr rfl rfl (fun w hK => (ldV hK Ty.o3 rfl (by exact hv1.at om))) hS <| xt (i := 5) rfl kr rfl rfl (fun w hK => mv) hS <| xt (i := 6) rfl kr rfl rfl (fun w hK => (mI rfl)) hS <| xt (i := 7) rfl kr rfl rfl (fun w hK => (mI rfl)) hS <| xt (i := 8) rfl kr rfl rfl (fun w hK => (ad rfl rfl)) hS <| xt (i := 9) rfl kr rfl rfl (fun w hK => (sb rfl rfl)) hS <| xt (i := 10) rfl kr rfl rfl (fun w hK => (mI rfl)) hS <| xt (i := 11) rfl kr rfl rfl (fun w hK => (rm rfl rfl)) hS <| xt (i := 12) rfl kr rfl rfl (fun w hK => (ix1 underlying22 Ty.s3 rfl hv1.1 rfl om om)) hS <| xt (i := 13) rfl kr rfl rfl (fun w hK => (ldV hK Ty.o3 rfl (by exact hv1.atI om om))) hS <| xt (i := 14) rfl kr rfl rfl (fun w hK => mv) hS <| xt (i := 15) rfl kr rfl rfl (fun w hK => (mI rfl)) hS <| xt (i := 16) rfl kr rfl rfl (fun w hK => (ad rfl rfl)) hS <| xt (i := 17) rfl kr rfl rfl (fun w hK => (mI rfl)) hS <| xt (i := 18) rfl kr rfl rfl (fun w hK => (rm rfl rfl)) hS <| xt (i := 19) rfl kr rfl rfl (fun w hK => (ix1 underlying22 Ty.s3 rfl hv1.1 rfl om om)) hS <| xt (i := 20) rfl kr rfl rfl (fun w hK => (ldV hK Ty.o3 rfl (by exact hv1.atI om om))) hS <| xt (i := 21) rfl kr rfl rfl (fun w hK => mv) hS <| xt (i := 22) rfl kr rfl rfl (fun w hK => (mI rfl)) hS <| xt (i := 23) rfl kr rfl rfl (fun w hK => (ad rfl rfl)) hS <| xt (i := 24) rfl kr rfl rfl (fun w hK => (mI rfl)) hS <| xt (i := 25) rfl kr rfl rfl (fun w hK => (rm rfl rfl)) hS <| xt (i := 26) rfl kr rfl rfl (fun w hK => (ix1 underlying22 Ty.s3 rfl hv1.1 rfl om om)) hS <| xt (i := 27) rfl kr rfl rfl (fun w hK => (ldV hK Ty.o3 rfl (by exact hv1.atI om om))) hS <| ?_
  refine xe (i := 28) kr rfl rfl ?_
  refine bsN [.tmp 34, .tmp 41] hK underlying22 Ty.i3 rfl rfl rfl rfl rfl rfl rfl rfl ?_
  intro b42 w hK
  refine xnk (K.sl hK) fun hS => ?_
  refine xe (i := 29) kr rfl rfl ?_
  refine vl (bd [(0, _), (1, _), (2, _)] Ty.p98 Ty.i98 rfl ⟨⟨rfl, rfl⟩, ⟨rfl, rfl⟩, ⟨rfl, rfl⟩, trivial⟩ rfl) <| ?_
  refine xnk (K.sl hK) fun hS => ?_
  refine xe (i := 30) kr rfl rfl ?_
  refine bsS1 hK underlying25 Ty.i98 rfl rfl rfl rfl rfl rfl ?_
  intro b44 w hK
  refine xnk (K.sl hK) fun hS => ?_
  refine xe (i := 31) kr rfl rfl ?_
  replace hK : K e w G1 ((b44, row (rc (xs[i], xs.getD (((i : Int) + xs.length - 1) % xs.length).toNat 0, .slice (some ⟨b42, 0, none⟩) 2 2, [xs.getD (((i : Int) + 1) % xs.length).toNat 0, xs.getD (((i : Int) + 2) % xs.length).toNat 0])) 98) :: (A ++ ((b42, row [.int .i64 (xs.getD (((i : Int) + 1) % xs.length).toNat 0), .int .i64 (xs.getD (((i : Int) + 2) % xs.length).toNat 0)] 3) :: L))) := (show K e w G1 ((b44, row (rc (xs[i], xs.getD (((i : Int) + xs.length - 1) % xs.length).toNat 0, .slice (some ⟨b42, 0, none⟩) 2 2, [xs.getD (((i : Int) + 1) % xs.length).toNat 0, xs.getD (((i : Int) + 2) % xs.length).toNat 0])) 98) :: ([(b42, row [.int .i64 (xs.getD (((i : Int) + 1) % xs.length).toNat 0), .int .i64 (xs.getD (((i : Int) + 2) % xs.length).toNat 0)] 3)] ++ (A ++ L))) from hK).midc
  refine apR1 (xs := rs) (k := ((xs[i], xs.getD (((i : Int) + xs.length - 1) % xs.length).toNat 0, .slice (some ⟨b42, 0, none⟩) 2 2, [xs.getD (((i : Int) + 1) % xs.length).toNat 0, xs.getD (((i : Int) + 2) % xs.length).toNat 0]) : Rn)) (rc_one rfl) hK underlying25 Ty.i98 rfl rfl rfl ho.os rfl om fun v2 A2 w ho2 hK => ?_
  obtain ⟨G2, hG2, hx', hK⟩ := K.pubO (v := .slice (some ⟨b42, 0, none⟩) 2 2) (xs := [xs.getD (((i : Int) + 1) % xs.length).toNat 0, xs.getD (((i : Int) + 2) % xs.length).toNat 0]) (A := [(b42, _)]) (K.mid (A := A2) (B := [_]) hK) (OS.lit (by simp) (by simp))
  have hres : rgl (rs ++ [((xs[i], xs.getD (((i : Int) + xs.length - 1) % xs.length).toNat 0, .slice (some ⟨b42, 0, none⟩) 2 2, [xs.getD (((i : Int) + 1) % xs.length).toNat 0, xs.getD (((i : Int) + 2) % xs.length).toNat 0]) : Rn)]) = idTo xs (i + 1) := by rw [rgl_snoc, hrg, idTo_succ]; unfold idN; rw [← getD_of hi']; rfl
  refine xnk ((K.vle (K.dropL hK) hG2)) fun hS => ?_
  refine xt (i := 32) rfl kr rfl rfl (fun w hK => asg) hS <| xd kr <| bkn <| thn <| rg <| vl (mI rfl) <| vl (ad rfl rfl) <| vl (aI rfl) <| nl <| thn <| ?_
  exact ⟨(i + 1, G2, v2, rs ++ [((xs[i], xs.getD (((i : Int) + xs.length - 1) % xs.length).toNat 0, .slice (some ⟨b42, 0, none⟩) 2 2, [xs.getD (((i : Int) + 1) % xs.length).toNat 0, xs.getD (((i : Int) + 2) % xs.length).toNat 0]) : Rn)], A2), ⟨rfl, rfl, rfl, rfl, trivial⟩, ⟨hi', hG1.trans hG2, hres, ⟨ho2, fun x hx => by
   rcases List.mem_append.1 hx with h | h
   ·exact (ho.aft x h).mono hG2
   ·rw [List.mem_singleton.1 h]; exact hx'⟩, hK⟩, by simp only; omega⟩
 ·have hi' : i = xs.length := by simp only at hc; omega
  subst hi'
  refine ex <| the <| the <| bkh <| thn <| sq <| rg <| ?_
  refine vl mv <| vl asg <| nl <| thn <| rt <| p1r (a := _) rfl <| ?_
  exact ⟨G1, rs, A, hG1, ho, hrg, hK⟩
theorem specRingNew_c (hK : K e w G L) (hv : IntS G v xs) : Ret prog 53 #[v] w (fun r w' => ∃ G' u rs b, r = .tuple #[u, .bool b] ∧ VLe G G' ∧ RngS G' u rs ∧ (b = true ↔ NdsOk xs ∧ 3 ≤ xs.length) ∧ rgl rs = (if b then idl xs else []) ∧ K e w' G' L) := by
 have hle := hv.le
 refine enter2 (args := [v]) func53 rfl rfl rfl rfl ?_
 refine sq <| rg <| ?_
 refine vl asg <| vl (aB rfl) <| nl <| thn <| sq <| sq <| rg <| vl mv <| ?_
 refine cl call96 rfl (specNodesValid_c hK hv) ?_
 rintro _ w ⟨rfl, hK⟩
 refine vl (ntB rfl) <| vl (mB rfl) <| ?_
 refine spl (t := 7) rfl (fun h1 => ?_) fun h1 => ?_
 ·have h1' := not_dec (Eq.mp (Bool.not_eq_true' _) h1)
  refine gn rfl <| gn rfl <| gn rfl <| vl (pk rfl) <| nl <| thn <| ?_
  refine cdt rfl ?_
  refine sq <| rg <| ?_
  refine bs0 hK underlying25 Ty.i98 ?_
  intro b12 w hK
  refine vl asg <| vl (aB rfl) <| nl <| thn <| rt <| thr <| p2r (a := _) (b := .bool _) rfl rfl <| ?_
  exact ⟨G, _, [], false, rfl, VLe.refl _, RngS.lit, by simp [h1'], rfl, hK.drop1⟩
 ·have h1' := of_dec (Eq.mp (Bool.not_eq_false' _) h1)
  refine gy rfl <| vl mv <| gy rfl <| vl (ln underlying22 rfl hv.len) <| gy rfl <| vl (lt rfl rfl) <| vl (pk rfl) <| nl <| thn <| ?_
  refine cdP rfl (fun h2 => ?_) fun h2 => ?_
  ·refine sq <| rg <| ?_
   refine bs0 hK underlying25 Ty.i98 ?_
   intro b12 w hK
   refine vl asg <| vl (aB rfl) <| nl <| thn <| rt <| thr <| p2r (a := _) (b := .bool _) rfl rfl <| ?_
   exact ⟨G, _, [], false, rfl, VLe.refl _, RngS.lit, by simp; intro _; omega, rfl, hK.drop1⟩
  ·refine sk <| thn <| sq <| rg <| ?_
   refine vl mv <| ?_
   refine cl call97 rfl (l3Ideal_c hK hv (by have := h1'.1; omega)) ?_
   rintro u w ⟨G1, rs, A, hG1, ho, hrg, hK⟩
   obtain ⟨G2, hG2, hR, hK⟩ := ho.pub hK
   refine vl asg <| vl (aB rfl) <| nl <| thn <| rt <| p2r (a := _) (b := .bool _) rfl rfl <| ?_
   exact ⟨G2, _, rs, true, rfl, hG1.trans hG2, hR, by simp [h1']; omega, hrg, hK⟩
end
open Go Go.Ro Tryz
section
variable {e w : World} {G : View} {L A : Own} {v u t t2 : Value} {xs ys ks ts us : List Int} {ls : List Ls} {n m : Int}
theorem eqScan_c (hK : K e w G L) (ht : IntS G t ts) (hu : IntS G t2 us) :
  Ret prog 30 #[.agg #[.int .i64 n, t], .agg #[.int .i64 m, t2]] w (fun r w' => r = .bool (decide (n = m ∧ ts = us)) ∧ K e w' G L) := by
 refine enter1 (args := [.agg #[.int .i64 n, t], .agg #[.int .i64 m, t2]]) func30 rfl rfl rfl rfl ?_
 refine sq <| rg <| ?_
 refine bx hK rfl rfl ?_
 intro b2 w hK
 refine bx hK rfl rfl ?_
 intro b3 w hK
 refine vl (aB rfl) <| nl <| thn <| sq <| sq <| rg <| vl (fa underlying29 rfl Ty.z3 rfl) <| vl (ldO hK Ty.o3 1 rfl rfl rfl) <| vl (fa underlying29 rfl Ty.z3 rfl) <| vl (ldO hK Ty.o3 0 rfl rfl rfl) <| vl (ne rfl rfl) <| nl <| thn <| ?_
 refine cdP rfl (fun h => ?_) fun h => ?_
 ·refine sq <| rg <| ?_
  refine vl (aB rfl) <| nl <| thn <| rt <| thr <| p1r (a := .bool _) rfl <| ?_
  exact ⟨by simp [h], hK.drop1.drop1⟩
 ·refine sk <| thn <| sq <| sq <| rg <| ?_
  refine vl (fa underlying29 rfl Ty.z22 rfl) <| vl (ldO hK Ty.o22 1 rfl rfl rfl) <| vl (fa underlying29 rfl Ty.z22 rfl) <| vl (ldO hK Ty.o22 0 rfl rfl rfl) <| ?_
  refine cl call11 rfl (eqIntS_c hK (by assumption) (by assumption)) ?_
  rintro _ w ⟨rfl, hK⟩
  refine vl (nt rfl) <| nl <| thn <| ?_
  refine cdP rfl (fun h2 => ?_) fun h2 => ?_
  ·refine sq <| rg <| ?_
   refine vl (aB rfl) <| nl <| thn <| rt <| thr <| p1r (a := .bool _) rfl <| ?_
   exact ⟨by simp [h2], hK.drop1.drop1⟩
  ·refine sk <| thn <| sq <| rg <| ?_
   refine vl (aB rfl) <| nl <| thn <| rt <| p1r (a := .bool _) rfl <| ?_
   exact ⟨by simp at h h2; simp [h, h2], hK.drop1.drop1⟩
end
open Go Go.Ro Tryz
section
variable {e w : World} {G : View} {L A : Own} {v u : Value} {xs ys : List Int} {ls ms : List Ls} {rs qs : List Rn} {zs ts : List It} {W W' : Wv} {wd wd' : Wd} {a b k id other : Int} {i j bk o : Nat}
end
end Go.Proofs.YtmgggljicpmndaaGreatDoor