/- Contracts of the functions on worlds: who owns a key. Contracts of the functions that make new rings and worlds. Contracts of the steps of a scan and of whole scans. Contracts of the functions that hold worlds against each other. Contracts of the functions that make new worlds, and of ideal rings. Contracts of the functions on ideal rings. Conditions: those that each row states. -/
import Derived.Test.YtmgggljicpmndaaGreatDoorWv
import Derived.Test.YtmgggljicpmndaaGreatDoorSk
namespace Go.Proofs.YtmgggljicpmndaaGreatDoor
open Go Go.Ro Tryz
section
variable {e w : World} {G : View} {L A : Own} {v u : Value} {xs ys : List Int} {ls : List Ls} {rs : List Rn} {zs : List It} {W : Wv} {wd : Wd} {a b k id other : Int} {i j bk o : Nat}
theorem live_c (hK : K e w G L) (hc : ∀ j u, (wc W)[j]? = some u → cellV G ⟨bk, o + j, none⟩ = some u) (hr : RngS G W.r rs) :
  Ret prog 118 #[.pointer (some ⟨bk, o, none⟩), .int .i64 k] w (fun r w' => r = .bool (decide (k ∈ ids (rgl rs))) ∧ K e w' G L) := by
 refine enter1 (args := [.pointer (some ⟨bk, o, none⟩), .int .i64 k]) func118 rfl rfl rfl rfl ?_
 refine sq <| rg <| ?_
 refine vl (aB rfl) <| nl <| thn <| sq <| rg <| vl mv <| vl (nc rfl) <| vl (fa underlying31 rfl Ty.z25 rfl) <| vl (ldV hK Ty.o25 rfl (hc 1 _ rfl)) <| vl (mI rfl) <| ?_
 refine cl call134 rfl (nodeAt_c hK hr) ?_
 rintro _ w ⟨rfl, hK⟩
 refine vl (nePn underlying143 rfl rfl) <| vl (aB rfl) <| nl <| thn <| rt <| p1r (a := .bool _) rfl <| ?_
 exact ⟨congrArg Value.bool (Bool.eq_iff_iff.2 (by rw [nAt_some]; simp)), hK⟩
theorem ownerA_c (hK : K e w G L) (hc : ∀ j u, (wc W)[j]? = some u → cellV G ⟨bk, o + j, none⟩ = some u) (hW : WdS G lc W wd rs) (hok : LsOk wd.leases) :
  Ret prog 125 #[.pointer (some ⟨bk, o, none⟩), .int .i64 k] w (fun r w' => ∃ n, r = .int .i64 n ∧ (Pt k → n = own wd k) ∧ (¬ Pt k → n = -1) ∧ K e w' G L) := by
 have hr := hW.ring
 have hl := hW.leases
 have e1 := hW.now
 have e2 := hW.rg
 refine enter1 (args := [.pointer (some ⟨bk, o, none⟩), .int .i64 k]) func125 rfl rfl rfl rfl ?_
 refine sq <| rg <| ?_
 refine vl (aI rfl) <| nl <| thn <| sq <| rg <| vl mv <| vl (nc rfl) <| vl (fa underlying31 rfl Ty.z26 rfl) <| vl (ldV hK Ty.o26 rfl (hc 2 _ rfl)) <| vl (mI rfl) <| ?_
 refine cl call165 rfl (LeaseOf_c hK hl) ?_
 rintro _ w ⟨⟨b, x, rfl, hb, hx⟩, hK⟩
 refine vl mv <| vl (ext rfl rfl) <| vl (ext rfl rfl) <| ?_
 refine al hK Ty.i101 rfl ?_
 intro b5 w hK
 refine soS hK Ty.i101 0 rfl rfl rfl rfl rfl rfl ?_
 intro w hK
 refine vl (aB rfl) <| nl <| thn <| sq <| sq <| ?_
 refine rgq (fun w => K _ w _ _) Ty.mixed kr (hK.drawn _) ?_
 refine qv (fun w hK => (mB rfl)) <| qv (fun w hK => (ntB rfl)) <| qv (fun w hK => (mB rfl)) <| ?_
 refine qspl (t := 18) rfl (fun h1 => ?_) fun h1 => ?_
 ·have h1' := Eq.mp (Bool.not_eq_true' _) h1
  refine qgn rfl <| qgn rfl <| qgn rfl <| qgn rfl <| qgn rfl <| qgn rfl <| qgn rfl <| qv (fun w hK => (pk rfl)) <| qv (fun w hK => (mB rfl)) <| qgn rfl <| qgn rfl <| qgn rfl <| qgn rfl <| qgn rfl <| qv (fun w hK => (pk rfl)) <| qn <| ?_
  intro w hK
  refine thn <| ?_
  refine cdt rfl ?_
  refine sq <| rg <| ?_
  refine vl (aI rfl) <| nl <| thn <| rt <| thr <| p1r (a := .int _ _) rfl <| ?_
  exact ⟨_, rfl, (fun h => absurd (hb.2 ⟨hok, h⟩) (by rw [h1']; simp)), fun _ => rfl, hK.drop1⟩
 ·have h1' := hb.1 (Eq.mp (Bool.not_eq_false' _) h1)
  obtain rfl := hx h1'.1 h1'.2
  refine qgy rfl <| qv (fun w hK => (fa underlying101 rfl Ty.z3 rfl)) <| qgy rfl <| qldO Ty.o3 0 rfl rfl rfl <| qgy rfl <| qv (fun w hK => mv) <| qgy rfl <| qv (fun w hK => (nc rfl)) <| qgy rfl <| qv (fun w hK => (fa underlying31 rfl Ty.z3 rfl)) <| qgy rfl <| qldV Ty.o3 rfl (hc 0 _ rfl) <| qgy rfl <| qv (fun w hK => (lt rfl rfl)) <| qv (fun w hK => (pk rfl)) <| qv (fun w hK => (mB rfl)) <| ?_
  refine qsplP (t := 27) rfl (fun h2 => ?_) fun h2 => ?_
  ·refine qgn rfl <| qgn rfl <| qgn rfl <| qgn rfl <| qgn rfl <| qv (fun w hK => (pk rfl)) <| qn <| ?_
   intro w hK
   refine thn <| ?_
   refine cdt rfl ?_
   refine sq <| rg <| ?_
   refine vl (aI rfl) <| nl <| thn <| rt <| thr <| p1r (a := .int _ _) rfl <| ?_
   exact ⟨_, rfl, fun _ => (if_pos (.inl (by omega))).symm, fun h => absurd h1'.2 h, hK.drop1⟩
  ·refine qgy rfl <| qv (fun w hK => mv) <| qgy rfl <| qv (fun w hK => (fa underlying101 rfl Ty.z3 rfl)) <| qgy rfl <| qldO Ty.o3 0 rfl rfl rfl <| qgy rfl <| ?_
   refine qcl call118 rfl (fun w hK => live_c hK hc hr) ?_
   refine qgy rfl <| qv (fun w hK => (nt rfl)) <| qv (fun w hK => (pk rfl)) <| qn <| ?_
   intro w hK
   refine thn <| ?_
   refine cdP rfl (fun h3 => ?_) fun h3 => ?_
   ·refine sq <| rg <| ?_
    refine vl (aI rfl) <| nl <| thn <| rt <| thr <| p1r (a := .int _ _) rfl <| ?_
    exact ⟨_, rfl, fun _ => (if_pos (.inr (by rw [← e2]; exact h3))).symm, fun h => absurd h1'.2 h, hK.drop1⟩
   ·refine sk <| thn <| sq <| rg <| ?_
    refine vl (fa underlying101 rfl Ty.z3 rfl) <| vl (ldO hK Ty.o3 0 rfl rfl rfl) <| vl (aI rfl) <| nl <| thn <| rt <| p1r (a := .int _ _) rfl <| ?_
    exact ⟨_, rfl, fun _ => (if_neg (by rw [← e2]; rintro (h | h); omega; exact h3 h)).symm, fun h => absurd h1'.2 h, hK.drop1⟩
theorem WdS.one (hW : WdS G lc W wd rs) : (wc W).all Ro.one = true := allc rfl (allc hW.ring.sl.1.one (allc hW.leases.1.one (allc hW.items.1.one (allc rfl (allc hW.told.1.one (allc hW.since.1.one rfl))))))
theorem l51Owner_c (hK : K e w G L) (hW : WdS G lc W wd rs) (h0 : 0 < wd.leases.length) : Ret prog 100 #[.agg (wc W).toArray, .int .i64 k] w (fun r w' => r = .int .i64 (own wd k) ∧ K e w' G L) := by
 have hr := hW.ring
 have hl := hW.leases
 have e1 := hW.now
 have e2 := hW.rg
 have hlt := lAt_lt (ls := wd.leases) (k := k) h0
 have hat := lsAt_eq hlt
 refine enter1 (args := [.agg (wc W).toArray, .int .i64 k]) func100 rfl rfl rfl rfl ?_
 refine sq <| rg <| ?_
 refine bx hK rfl rfl ?_
 intro b2 w hK
 refine vl (aI rfl) <| nl <| thn <| sq <| ?_
 refine ct (σ := Nat) (fun s => [(2, .pointer (some ⟨b2, 0, none⟩)), (5, .pointer (some ⟨s, 0, none⟩))]) (fun s w => K e w G ((s, row (lc (lsAt wd.leases k)) 101) :: (b2, row (wc W) 31) :: L)) ?_ ?_
 ·skip
  refine rgs (fun w => K e w G ((b2, row (wc W) 31) :: L)) (fun w => K _ w _ _) [U,U,U,U,U,U,U,U,U,U] 10 Ty.mixed rfl rfl (hK.drawn _) ?_
  intro w hK
  have hS : (fun w => K e w G ((b2, row (wc W) 31) :: L)) w := K.sl hK
  refine xt (i := 0) rfl kr rfl rfl (fun w hK => (fa underlying31 rfl Ty.z26 rfl)) hS <| xt (i := 1) rfl kr rfl rfl (fun w hK => (ldO hK Ty.o26 0 rfl rfl rfl)) hS <| xt (i := 2) rfl kr rfl rfl (fun w hK => (fa underlying31 rfl Ty.z26 rfl)) hS <| xt (i := 3) rfl kr rfl rfl (fun w hK => (ldO hK Ty.o26 0 rfl rfl rfl)) hS <| xt (i := 4) rfl kr rfl rfl (fun w hK => (mI rfl)) hS <| ?_
  refine xe2 (i := 5) (j := 8) kr rfl rfl rfl rfl ?_ ?_
  ·skip
   refine cl call141 rfl (l12At_c hK hl) ?_
   rintro _ w ⟨rfl, hK⟩
   refine xnk (K.sl hK) fun hS => ?_
   refine xt (i := 6) rfl kr rfl rfl (fun w hK => (ixm (m := lAt wd.leases k) underlying26 Ty.s101 rfl hl.1 rfl om om)) hS <| xt (i := 7) rfl kr rfl rfl (fun w hK => (lsF hK Ty.a101 Ty.s101 rfl hl om)) hS <| ?_
   refine xe (i := 8) kr rfl rfl ?_
   refine al hK Ty.i101 rfl ?_
   intro b5 w hK
   refine xnk (K.sl hK) fun hS => ?_
   refine xe (i := 9) kr rfl rfl ?_
   refine soS hK Ty.i101 0 rfl rfl rfl rfl rfl rfl ?_
   intro w hK
   refine xnk (K.sl hK) fun hS => ?_
   refine xd kr <| ctn <| ?_
   exact ⟨b5, ⟨rfl, rfl, trivial⟩, by rw [← hat]; exact hK⟩
  ·refine al hK Ty.i101 rfl ?_
   intro b5 w hK
   refine xnk (K.sl hK) fun hS => ?_
   refine xe (i := 5) kr rfl rfl ?_
   refine cl call141 rfl (l12At_c hK hl) ?_
   rintro _ w ⟨rfl, hK⟩
   refine xnk (K.sl hK) fun hS => ?_
   refine xt (i := 6) rfl kr rfl rfl (fun w hK => (ixm (m := lAt wd.leases k) underlying26 Ty.s101 rfl hl.1 rfl om om)) hS <| xt (i := 7) rfl kr rfl rfl (fun w hK => (lsF hK Ty.a101 Ty.s101 rfl hl om)) hS <| ?_
   refine xe (i := 9) kr rfl rfl ?_
   refine soS hK Ty.i101 0 rfl rfl rfl rfl rfl rfl ?_
   intro w hK
   refine xnk (K.sl hK) fun hS => ?_
   refine xd kr <| ctn <| ?_
   exact ⟨b5, ⟨rfl, rfl, trivial⟩, by rw [← hat]; exact hK⟩
 ·rintro b5 g w hK
  refine thn <| sq <| sq <| rg <| ?_
  refine vl (fa underlying101 rfl Ty.z3 rfl) <| vl (ldO hK Ty.o3 0 rfl rfl rfl) <| vl (fa underlying31 rfl Ty.z3 rfl) <| vl (ldO hK Ty.o3 1 rfl rfl rfl) <| vl (lt rfl rfl) <| vl (mB rfl) <| ?_
  refine splP (t := 19) rfl (fun h2 => ?_) fun h2 => ?_
  ·refine gn rfl <| gn rfl <| gn rfl <| gn rfl <| gn rfl <| gn rfl <| vl (pk rfl) <| nl <| thn <| ?_
   refine cdt rfl ?_
   refine sq <| rg <| ?_
   refine vl (aI rfl) <| nl <| thn <| rt <| thr <| p1r (a := .int _ _) rfl <| ?_
   refine ⟨?_, hK.drop1.drop1⟩
   exact congrArg (Value.int .i64) (if_pos (.inl (by omega))).symm
  ·refine gy rfl <| vl (fa underlying31 rfl Ty.z25 rfl) <| gy rfl <| vl (ldO hK Ty.o25 1 rfl rfl rfl) <| gy rfl <| vl (fa underlying101 rfl Ty.z3 rfl) <| gy rfl <| vl (ldO hK Ty.o3 0 rfl rfl rfl) <| gy rfl <| ?_
   refine cl call98 rfl (l3Find_c hK hr) ?_
   rintro _ w ⟨rfl, hK⟩
   refine gy rfl <| vl (lt rfl rfl) <| vl (pk rfl) <| nl <| thn <| ?_
   refine cdP rfl (fun h3 => ?_) fun h3 => ?_
   ·have h3' : (lsAt wd.leases k).2.1 ∉ ids (rgl rs) := fun h => by have := fI_ge.2 h; omega
    refine sq <| rg <| ?_
    refine vl (aI rfl) <| nl <| thn <| rt <| thr <| p1r (a := .int _ _) rfl <| ?_
    refine ⟨?_, hK.drop1.drop1⟩
    exact congrArg (Value.int .i64) (if_pos (.inr (by rw [← e2]; exact h3'))).symm
   ·have h3' : (lsAt wd.leases k).2.1 ∈ ids (rgl rs) := fI_ge.1 (by omega)
    refine sk <| thn <| sq <| rg <| ?_
    refine vl (fa underlying101 rfl Ty.z3 rfl) <| vl (ldO hK Ty.o3 0 rfl rfl rfl) <| vl (aI rfl) <| nl <| thn <| rt <| p1r (a := .int _ _) rfl <| ?_
    refine ⟨?_, hK.drop1.drop1⟩
    exact congrArg (Value.int .i64) (if_neg (by rw [← e2]; rintro (h | h); omega; exact h h3')).symm
end
open Go Go.Ro Tryz
section
variable {e w : World} {G : View} {L A : Own} {v u : Value} {xs ys : List Int} {ls : List Ls} {rs : List Rn} {zs : List It} {W : Wv} {wd : Wd} {a b k id other : Int} {i j bk o : Nat}
end
open Go Go.Ro Tryz
section
variable {e w : World} {G : View} {L A : Own} {v u t t2 : Value} {xs ys ks ts us : List Int} {ls : List Ls} {n m : Int}
theorem eqScan_c (hK : K e w G L) (ht : IntS G t ts) (hu : IntS G t2 us) :
  Ret prog 30 #[.agg #[.int .i64 n, t], .agg #[.int .i64 m, t2]] w (fun r w' => r = .bool (decide (n = m ∧ ts = us)) ∧ K e w' G L) := by
 refine enter1 (args := [.agg #[.int .i64 n, t], .agg #[.int .i64 m, t2]]) func30 rfl rfl rfl rfl ?_
 refine sq <| rg <| ?_
 refine bx hK rfl rfl ?_
 intro b2 w hK
 refine bx hK rfl rfl ?_
 intro b3 w hK
 refine vl (aB rfl) <| nl <| thn <| sq <| sq <| rg <| vl (fa underlying29 rfl Ty.z3 rfl) <| vl (ldO hK Ty.o3 1 rfl rfl rfl) <| vl (fa underlying29 rfl Ty.z3 rfl) <| vl (ldO hK Ty.o3 0 rfl rfl rfl) <| vl (ne rfl rfl) <| nl <| thn <| ?_
 refine cdP rfl (fun h => ?_) fun h => ?_
 ·refine sq <| rg <| ?_
  refine vl (aB rfl) <| nl <| thn <| rt <| thr <| p1r (a := .bool _) rfl <| ?_
  exact ⟨by simp [h], hK.drop1.drop1⟩
 ·refine sk <| thn <| sq <| sq <| rg <| ?_
  refine vl (fa underlying29 rfl Ty.z22 rfl) <| vl (ldO hK Ty.o22 1 rfl rfl rfl) <| vl (fa underlying29 rfl Ty.z22 rfl) <| vl (ldO hK Ty.o22 0 rfl rfl rfl) <| ?_
  refine cl call11 rfl (eqIntS_c hK (by assumption) (by assumption)) ?_
  rintro _ w ⟨rfl, hK⟩
  refine vl (nt rfl) <| nl <| thn <| ?_
  refine cdP rfl (fun h2 => ?_) fun h2 => ?_
  ·refine sq <| rg <| ?_
   refine vl (aB rfl) <| nl <| thn <| rt <| thr <| p1r (a := .bool _) rfl <| ?_
   exact ⟨by simp [h2], hK.drop1.drop1⟩
  ·refine sk <| thn <| sq <| rg <| ?_
   refine vl (aB rfl) <| nl <| thn <| rt <| p1r (a := .bool _) rfl <| ?_
   exact ⟨by simp at h h2; simp [h, h2], hK.drop1.drop1⟩
end
open Go Go.Ro Tryz
section
variable {e w : World} {G : View} {L A : Own} {v u : Value} {xs ys : List Int} {ls ms : List Ls} {rs qs : List Rn} {zs ts : List It} {W W' : Wv} {wd wd' : Wd} {a b k id other : Int} {i j bk o : Nat}
end
open Go Go.Ro Tryz
section
variable {e w : World} {G : View} {L A : Own} {v u : Value} {xs ys : List Int} {ls ms : List Ls} {rs qs : List Rn} {zs ts : List It} {W W' : Wv} {wd wd' : Wd} {a b k id other : Int} {i j bk o : Nat}
theorem until_c {C : World → Prop} (hK : C w) (h0 : 0 ≤ k) (h1 : k ≤ 100000) : Ret prog 114 #[.int .i64 k] w (fun r w' => r = .int .i64 (min (k + 20) 999) ∧ C w') := by
 refine enter1 (args := [.int .i64 k]) func114 rfl rfl rfl rfl ?_
 refine sq <| rg <| ?_
 refine vl (aI rfl) <| nl <| thn <| sq <| rg <| vl (mI rfl) <| vl (ad rfl rfl) <| vl (mn rfl rfl) <| vl (aI rfl) <| nl <| thn <| rt <| p1r (a := .int _ _) rfl <| ?_
 exact ⟨rfl, hK⟩
end
open Go Go.Ro Tryz
section
variable {e w : World} {G : View} {L A : Own} {v u : Value} {xs ys : List Int} {ls ms : List Ls} {rs qs : List Rn} {zs ts : List It} {W W' : Wv} {wd wd' : Wd} {a b k id other : Int} {i j bk o : Nat}
end
end Go.Proofs.YtmgggljicpmndaaGreatDoor