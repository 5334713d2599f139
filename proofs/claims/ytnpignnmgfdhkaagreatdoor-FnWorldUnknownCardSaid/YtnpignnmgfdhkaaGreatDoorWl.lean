/- More laws on one event: what they return. Conditions: those that each row states. -/
import Derived.Test.YtnpignnmgfdhkaaGreatDoorWk
import Derived.Test.YtnpignnmgfdhkaaGreatDoorWn
import Derived.Test.YtnpignnmgfdhkaaGreatDoorStM
import Derived.Test.YtnpignnmgfdhkaaGreatDoorSn
namespace Go.Proofs.YtnpignnmgfdhkaaGreatDoor
open Go Go.Ro

theorem ngo {P : Program} {n : Nat} {f : Nat → Value} {w : World} {d : Nat} {ty pos af T : _} {x : Operand} {a : Int} (hx : ev n f x = .int .i64 a) (h : lo64 (-a) ∧ hi64 (-a)) : St P n ⟨some d, .unOp .neg T x, ty, pos, af, none⟩ f w (.int .i64 (-a)) w := by
 have := wrap64_in h.1 h.2
 unfold St execOp; simp [hx, Op.unary, Op.intArith, this]
section
variable {e w : World} {G : View} {L A : Own} {v u cva cvm : Value} {xs ys code more : List Int} {rs qs : List Rn} {W W' : Wv} {wd wd' : Wd} {a b c k kd id p : Int} {i j bk o rb : Nat} {a0 a1 : Addr}

theorem holder_c {ls : List Ls} (hK : K e w G L) (hv : LeaS G v ls) (hok : LsOk ls) (hk : Pt k) : Ret Tryz.prog 17 #[v, .int .i64 k] w (fun r w' => r = .tuple #[.int .i64 (lsAt ls k).2.1, .int .i64 (lsAt ls k).2.2] ∧ K e w' G L) := by
 refine enter2 (args := [v, .int .i64 k]) Tryz.func17 rfl rfl rfl rfl ?_
 refine sq <| rg <| ?_
 refine vl (aI rfl) <| vl (aI rfl) <| nl <| thn <| sq <| rg <| vl mv <| vl (mI rfl) <| ?_
 refine cl Tryz.call55 rfl (LeaseOf_c hK hv) ?_
 rintro _ w ⟨⟨b, x, rfl, _, hx⟩, hK⟩
 obtain rfl := hx hok hk
 refine vl mv <| vl (ext rfl rfl) <| vl (ext rfl rfl) <| ?_
 refine al hK Ty.i86 rfl ?_
 intro b6 w hK
 refine soS hK Ty.i86 0 rfl rfl rfl rfl rfl rfl ?_
 intro w hK
 refine vl (aB rfl) <| nl <| thn <| sq <| ?_
 refine rgq (fun w => K e w G ((b6, row (lc (lsAt ls k)) 86) :: L)) Ty.mixed kr (hK.drawn _) ?_
 refine qv (fun w hK => (fa Tryz.underlying86 rfl Ty.z3 rfl)) <| ?_; refine qldO Ty.o3 0 rfl rfl rfl <| ?_; refine qv (fun w hK => (fa Tryz.underlying86 rfl Ty.z3 rfl)) <| ?_; refine qldO Ty.o3 0 rfl rfl rfl <| ?_; refine qv (fun w hK => (aI rfl)) <| ?_; refine qv (fun w hK => (aI rfl)) <| ?_; refine qn <| ?_
 intro w hK
 refine thn <| rt <| p2r (a := .int _ _) (b := .int _ _) rfl rfl <| ?_
 exact ⟨rfl, hK.drop1⟩
set_option maxRecDepth 20000 in
set_option maxHeartbeats 1000000 in
theorem FnWorldScan_c (hK : K e w G L) (hE : ErrS 208 G a0 a1) (hc : BytS G cva code) : Ret Tryz.prog 7 #[cva] w (fun r w' => r = .bool true ∧ ∃ G' L', K e w' G' L' ∧ VLe G G') := by
 refine enter1 (args := [cva]) Tryz.func7 rfl rfl rfl rfl ?_
 refine sq <| rg <| ?_
 refine vl (aB rfl) <| nl <| thn <| sq <| sq <| rg <| vl mv <| vl (ln Tryz.underlying22 rfl hc.len) <| vl (gt rfl rfl) <| nl <| thn <| ?_
 refine cdP rfl (fun hbig => ?_) (fun hbig => ?_)
 ·refine sq <| rg <| ?_
  refine vl (aB rfl) <| nl <| thn <| rt <| thr <| p1r (a := .bool _) rfl <| ?_
  exact ⟨rfl, _, _, hK, VLe.refl _⟩
 ·refine sk <| thn <| sq <| rg <| ?_
  refine vl mv <| ?_
  refine cl Tryz.call9 rfl (DrawWorldDo_c hK hc) ?_
  rintro _ w ⟨G1, W, wd, rs, kd, a, b, c, rfl, hG1, hW, hil, hK⟩
  refine vl mv <| vl (ext rfl rfl) <| vl (ext rfl rfl) <| ?_
  refine al hK Ty.i30 rfl ?_
  intro b3 w hK
  refine al hK Ty.i32 rfl ?_
  intro b4 w hK
  refine soS hK Ty.i30 1 rfl rfl rfl rfl (WdS.one hW) rfl ?_
  intro w hK
  refine soS hK Ty.i32 0 rfl rfl rfl rfl rfl rfl ?_
  intro w hK
  refine nl <| thn <| sq <| rg <| vl (lsO hK Ty.a30 Ty.s30 1 rfl rfl rfl) <| vl (lsO hK Ty.a32 Ty.s32 0 rfl rfl rfl) <| ?_
  refine cl Tryz.call10 rfl (implWorldDo_c (hE.mono hG1) hK hW hil) ?_
  rintro _ w ⟨G2, W2, q2, hG2, rfl, hW2, hK⟩
  refine al hK Ty.i30 rfl ?_
  intro b5 w hK
  refine soS hK Ty.i30 0 rfl rfl rfl rfl (WdS.one hW2) rfl ?_
  intro w hK
  refine nl <| thn <| sq <| rg <| vl (lsO hK Ty.a30 Ty.s30 2 rfl rfl rfl) <| vl (lsO hK Ty.a32 Ty.s32 1 rfl rfl rfl) <| ?_
  refine cl Tryz.call11 rfl (specWorldDo_c hK (hW.mono hG2) hil) ?_
  rintro _ w ⟨G3, W3, q3, hG3, rfl, hW3, hK⟩
  have hG := (hG1.trans hG2).trans hG3
  replace hE := hE.mono hG
  replace hW := hW.mono (hG2.trans hG3)
  replace hW2 := hW2.mono hG3
  refine al hK Ty.i30 rfl ?_
  intro b6 w hK
  refine soS hK Ty.i30 0 rfl rfl rfl rfl (WdS.one hW3) rfl ?_
  intro w hK
  refine nl <| thn <| sq <| sq <| rg <| vl (lsO hK Ty.a30 Ty.s30 1 rfl rfl rfl) <| vl (lsO hK Ty.a30 Ty.s30 0 rfl rfl rfl) <| ?_
  refine cl Tryz.call12 rfl (sameWorld_c hK hW2 hW3) ?_
  rintro _ w ⟨rfl, hK⟩
  refine vl (ntB rfl) <| vl (mB rfl) <| ?_
  refine spl (t := 27) rfl (fun h1 => ?_) (fun h1 => ?_)
  ·exact absurd rfl (not_dec (Eq.mp (Bool.not_eq_true' _) h1))
  ·refine gy rfl <| vl (lsO hK Ty.a30 Ty.s30 3 rfl rfl rfl) <| gy rfl <| ?_
   refine cl Tryz.call13 rfl (specWorldValid_c hK hW om) ?_
   rintro _ w ⟨rfl, hK⟩
   refine gy rfl <| vl (ntB rfl) <| vl (pk rfl) <| vl (mB rfl) <| ?_
   refine spl (t := 32) rfl (fun h2 => ?_) (fun h2 => ?_)
   ·refine gn rfl <| gn rfl <| gn rfl <| gn rfl <| vl (pk rfl) <| nl <| thn <| ?_
    refine cdt rfl ?_
    refine sq <| rg <| ?_
    refine vl (lsO hK Ty.a30 Ty.s30 1 rfl rfl rfl) <| vl (lsO hK Ty.a30 Ty.s30 0 rfl rfl rfl) <| ?_
    refine cl Tryz.call12 rfl (sameWorld_c hK hW2 hW3) ?_
    rintro _ w ⟨rfl, hK⟩
    refine vl (aB rfl) <| nl <| thn <| rt <| thr <| p1r (a := .bool _) rfl <| ?_
    exact ⟨congrArg Value.bool (dec_t rfl), _, _, hK, hG⟩
   ·have hok : WdOk wd := of_dec (Eq.mp (Bool.not_eq_false' _) h2)
    rw [wdF_yes hok] at hW2 hW3
    refine gy rfl <| vl (fa Tryz.underlying30 rfl Ty.z28 rfl) <| gy rfl <| vl (fa Tryz.underlying28 rfl Ty.z3 rfl) <| gy rfl <| vl (ldO hK Ty.o3 3 rfl rfl rfl) <| gy rfl <| vl (ge rfl rfl) <| vl (pk rfl) <| nl <| thn <| ?_
    refine cdP rfl (fun h3 => ?_) (fun h3 => ?_)
    ·refine sq <| rg <| ?_
     refine vl (lsO hK Ty.a30 Ty.s30 1 rfl rfl rfl) <| vl (lsO hK Ty.a30 Ty.s30 0 rfl rfl rfl) <| ?_
     refine cl Tryz.call12 rfl (sameWorld_c hK hW2 hW3) ?_
     rintro _ w ⟨rfl, hK⟩
     refine vl (aB rfl) <| nl <| thn <| rt <| thr <| p1r (a := .bool _) rfl <| ?_
     exact ⟨congrArg Value.bool (dec_t rfl), _, _, hK, hG⟩
    ·have e4 := hW.next
     have hn : wd.scan.1 < 64 := by omega
     have hsl := scan_law hok hn
     have h0 := hok.wda.sc.1.1
     have hpt : Pt W.next := by unfold Pt; omega
     refine sk <| thn <| sq <| rg <| ?_
     refine vl (lsO hK Ty.a30 Ty.s30 3 rfl rfl rfl) <| vl (bd [(0, _)] Ty.p32 Ty.i32 rfl ⟨⟨rfl, rfl⟩, trivial⟩ rfl) <| ?_
     refine cl Tryz.call10 rfl (implWorldDo_c (kd := 14) (a := 0) (b := 0) (c := 0) hE hK hW hil) ?_
     rintro _ w ⟨G4, W4, q4, hG4, rfl, hW4, hK⟩
     rw [wdF_yes hok] at hW4
     have e5 := hW4.next
     refine al hK Ty.i30 rfl ?_
     intro b7 w hK
     refine soS hK Ty.i30 0 rfl rfl rfl rfl (WdS.one hW4) rfl ?_
     intro w hK
     refine nl <| thn <| sq <| rg <| vl (lsO hK Ty.a30 Ty.s30 0 rfl rfl rfl) <| ?_
     refine al hK Ty.i30 rfl ?_
     intro b8 w hK
     refine soS hK Ty.i30 0 rfl rfl rfl rfl (WdS.one hW4) rfl ?_
     intro w hK
     refine nl <| thn <| sq <| ?_
     replace hK : K e w G4 ((b8, row (wc W4) 30) :: _) := hK
     refine rg <| ?_
     refine vl (fa Tryz.underlying30 rfl Ty.z28 rfl) <| vl (lsP (u := [.int .i64 W.next, W.t]) hK Ty.a28 Ty.s28 5 rfl rfl rfl rfl) <| vl (fa Tryz.underlying30 rfl Ty.z28 rfl) <| ?_
     refine soS hK Ty.i28 0 rfl rfl rfl rfl (allc rfl (allc hW.told.1.one rfl)) rfl ?_
     intro w hK
     refine nl <| thn <| sq <| ?_
     replace hK : K e w G4 ((b8, row (wc ⟨W4.now, W4.r, W4.l, W4.i, W.next, W.t, W4.s⟩) 30) :: _) := hK
     have hW6 := hW.mono hG4
     have hW5 : WdS G4 lc ⟨W4.now, W4.r, W4.l, W4.i, W.next, W.t, W4.s⟩ { doW wd 14 0 0 0 with scan := wd.scan } q4 := ⟨hW4.now, hW4.ring, hW4.rg, hW4.leases, hW4.items, hW6.next, hW6.told, hW4.since⟩
     refine rgs (fun w => K e w G4 ((b8, row (wc ⟨W4.now, W4.r, W4.l, W4.i, W.next, W.t, W4.s⟩) 30) :: (b7, row (wc W4) 30) :: (b3, row (wc W) 30) :: L)) (fun w => K _ w _ _) [U,U,U,U,U,U,U,U,U,U,U,U,U,U,U,U,U,U,U,U] 20 Ty.mixed rfl rfl (hK.drawn _) ?_
     intro w hK
     have hS : (fun w => K e w G4 ((b8, row (wc ⟨W4.now, W4.r, W4.l, W4.i, W.next, W.t, W4.s⟩) 30) :: (b7, row (wc W4) 30) :: (b3, row (wc W) 30) :: L)) w := K.sl hK
     refine xt (i := 0) rfl kr rfl rfl (fun w hK => (lsO hK Ty.a30 Ty.s30 0 rfl rfl rfl)) hS <| ?_; refine xt (i := 1) rfl kr rfl rfl (fun w hK => (lsO hK Ty.a30 Ty.s30 2 rfl rfl rfl)) hS <| ?_
     refine xe (i := 2) kr rfl rfl ?_
     refine cl Tryz.call12 rfl (sameWorld_c hK hW5 hW6) ?_
     rintro _ w ⟨rfl, hK⟩
     refine xnk (K.sl hK) fun hS => ?_
     refine xt (i := 3) rfl kr rfl rfl (fun w hK => (mB rfl)) hS <| ?_
     refine xspl (t := 51) rfl (fun h5 => ?_) (fun h5 => ?_)
     ·refine xt (i := 4) rfl kr rfl rfl (fun w hK => (fa Tryz.underlying30 rfl Ty.z28 rfl)) hS <| ?_; refine xt (i := 5) rfl kr rfl rfl (fun w hK => (fa Tryz.underlying28 rfl Ty.z3 rfl)) hS <| ?_; refine xt (i := 6) rfl kr rfl rfl (fun w hK => (ldO hK Ty.o3 1 rfl rfl rfl)) hS <| ?_; refine xt (i := 7) rfl kr rfl rfl (fun w hK => (fa Tryz.underlying30 rfl Ty.z28 rfl)) hS <| ?_; refine xt (i := 8) rfl kr rfl rfl (fun w hK => (fa Tryz.underlying28 rfl Ty.z3 rfl)) hS <| ?_; refine xt (i := 9) rfl kr rfl rfl (fun w hK => (ldO hK Ty.o3 2 rfl rfl rfl)) hS <| ?_; refine xt (i := 10) rfl kr rfl rfl (fun w hK => (gt rfl rfl)) hS <| ?_; refine xt (i := 11) rfl kr rfl rfl (fun w hK => (lsO hK Ty.a30 Ty.s30 2 rfl rfl rfl)) hS <| ?_; refine xt (i := 12) rfl kr rfl rfl (fun w hK => (fa Tryz.underlying30 rfl Ty.z28 rfl)) hS <| ?_; refine xt (i := 13) rfl kr rfl rfl (fun w hK => (fa Tryz.underlying28 rfl Ty.z3 rfl)) hS <| ?_; refine xt (i := 14) rfl kr rfl rfl (fun w hK => (ldO hK Ty.o3 2 rfl rfl rfl)) hS <| ?_
      refine xe (i := 15) kr rfl rfl ?_
      refine gy rfl <| ?_
      refine cl Tryz.call16 rfl (WorldOwner_c hK hW6 om) ?_
      rintro _ w ⟨⟨n, rfl, _, hnn, _⟩, G6, hG6, hK⟩
      obtain rfl := hnn hok hpt
      refine xnk ((K.vle (K.sl hK) hG6)) fun hS => ?_
      refine xt (i := 16) rfl kr rfl rfl (fun w hK => (ge rfl rfl)) hS <| ?_; refine xt (i := 17) rfl kr rfl rfl (fun w hK => (eqB Tryz.underlying4 rfl rfl)) hS <| ?_; refine xt (i := 18) rfl kr rfl rfl (fun w hK => (pk rfl)) hS <| ?_; refine xt (i := 19) rfl kr rfl rfl (fun w hK => (aB rfl)) hS <| ?_; refine xd kr <| thn <| rt <| p1r (a := .bool _) rfl <| ?_
      exact ⟨congrArg Value.bool (by rw [beq_iff_eq, decide_eq_decide, e4, e5]; exact hsl.2), _, _, hK, (hG.trans hG4).trans hG6⟩
     ·exact absurd hsl.1 (not_dec h5)
set_option maxRecDepth 20000 in
set_option maxHeartbeats 1000000 in
theorem FnWorldUnknown_c (hK : K e w G L) (hE : ErrS 208 G a0 a1) (hc : BytS G cva code) (hm : BytS G cvm more) : Ret Tryz.prog 6 #[cva, cvm] w (fun r w' => r = .bool true ∧ ∃ G' L', K e w' G' L' ∧ VLe G G') := by
 refine enter1 (args := [cva, cvm]) Tryz.func6 rfl rfl rfl rfl ?_
 refine sq <| rg <| ?_
 refine vl (aB rfl) <| nl <| thn <| sq <| sq <| rg <| vl mv <| vl (ln Tryz.underlying22 rfl hc.len) <| vl (gt rfl rfl) <| vl (mB rfl) <| ?_
 refine splP (t := 15) rfl (fun hbig => ?_) (fun hbig => ?_)
 ·refine gn rfl <| gn rfl <| gn rfl <| vl (pk rfl) <| nl <| thn <| ?_
  refine cdt rfl ?_
  refine sq <| rg <| ?_
  refine vl (aB rfl) <| nl <| thn <| rt <| thr <| p1r (a := .bool _) rfl <| ?_
  exact ⟨rfl, _, _, hK, VLe.refl _⟩
 ·refine gy rfl <| vl mv <| gy rfl <| vl (ln Tryz.underlying22 rfl hm.len) <| gy rfl <| vl (gt rfl rfl) <| vl (pk rfl) <| nl <| thn <| ?_
  refine cdP rfl (fun hbig2 => ?_) (fun hbig2 => ?_)
  ·refine sq <| rg <| ?_
   refine vl (aB rfl) <| nl <| thn <| rt <| thr <| p1r (a := .bool _) rfl <| ?_
   exact ⟨rfl, _, _, hK, VLe.refl _⟩
  ·refine sk <| thn <| sq <| rg <| ?_
   refine vl mv <| ?_
   refine cl Tryz.call9 rfl (DrawWorldDo_c hK hc) ?_
   rintro _ w ⟨G1, W, wd, rs, kd, a, b, c, rfl, hG1, hW, hil, hK⟩
   refine vl mv <| vl (ext rfl rfl) <| vl (ext rfl rfl) <| ?_
   refine al hK Ty.i30 rfl ?_
   intro b5 w hK
   refine al hK Ty.i32 rfl ?_
   intro b6 w hK
   refine soS hK Ty.i30 1 rfl rfl rfl rfl (WdS.one hW) rfl ?_
   intro w hK
   refine soS hK Ty.i32 0 rfl rfl rfl rfl rfl rfl ?_
   intro w hK
   refine nl <| thn <| sq <| rg <| vl (lsO hK Ty.a30 Ty.s30 1 rfl rfl rfl) <| vl (lsO hK Ty.a32 Ty.s32 0 rfl rfl rfl) <| ?_
   refine cl Tryz.call10 rfl (implWorldDo_c (hE.mono hG1) hK hW hil) ?_
   rintro _ w ⟨G2, W2, q2, hG2, rfl, hW2, hK⟩
   refine al hK Ty.i30 rfl ?_
   intro b7 w hK
   refine soS hK Ty.i30 0 rfl rfl rfl rfl (WdS.one hW2) rfl ?_
   intro w hK
   refine nl <| thn <| sq <| rg <| vl (lsO hK Ty.a30 Ty.s30 2 rfl rfl rfl) <| vl (lsO hK Ty.a32 Ty.s32 1 rfl rfl rfl) <| ?_
   refine cl Tryz.call11 rfl (specWorldDo_c hK (hW.mono hG2) hil) ?_
   rintro _ w ⟨G3, W3, q3, hG3, rfl, hW3, hK⟩
   have hG := (hG1.trans hG2).trans hG3
   replace hE := hE.mono hG
   replace hW := hW.mono (hG2.trans hG3)
   replace hW2 := hW2.mono hG3
   refine al hK Ty.i30 rfl ?_
   intro b8 w hK
   refine soS hK Ty.i30 0 rfl rfl rfl rfl (WdS.one hW3) rfl ?_
   intro w hK
   refine nl <| thn <| sq <| sq <| rg <| vl (lsO hK Ty.a30 Ty.s30 1 rfl rfl rfl) <| vl (lsO hK Ty.a30 Ty.s30 0 rfl rfl rfl) <| ?_
   refine cl Tryz.call12 rfl (sameWorld_c hK hW2 hW3) ?_
   rintro _ w ⟨rfl, hK⟩
   refine vl (ntB rfl) <| vl (mB rfl) <| ?_
   refine spl (t := 35) rfl (fun h1 => ?_) (fun h1 => ?_)
   ·exact absurd rfl (not_dec (Eq.mp (Bool.not_eq_true' _) h1))
   ·refine gy rfl <| vl (lsO hK Ty.a30 Ty.s30 3 rfl rfl rfl) <| gy rfl <| ?_
    refine cl Tryz.call13 rfl (specWorldValid_c hK hW om) ?_
    rintro _ w ⟨rfl, hK⟩
    refine gy rfl <| vl (ntB rfl) <| vl (pk rfl) <| nl <| thn <| ?_
    refine cdB rfl (fun h2 => ?_) (fun h2 => ?_)
    ·refine sq <| rg <| ?_
     refine vl (lsO hK Ty.a30 Ty.s30 1 rfl rfl rfl) <| vl (lsO hK Ty.a30 Ty.s30 0 rfl rfl rfl) <| ?_
     refine cl Tryz.call12 rfl (sameWorld_c hK hW2 hW3) ?_
     rintro _ w ⟨rfl, hK⟩
     refine vl (aB rfl) <| nl <| thn <| rt <| thr <| p1r (a := .bool _) rfl <| ?_
     exact ⟨congrArg Value.bool (dec_t rfl), _, _, hK, hG⟩
    ·have hok : WdOk wd := of_dec (Eq.mp (Bool.not_eq_false' _) h2)
     rw [wdF_yes hok] at hW2 hW3
     refine sk <| thn <| sq <| rg <| ?_
     refine vl (lsO hK Ty.a30 Ty.s30 3 rfl rfl rfl) <| vl mv <| vl (ln Tryz.underlying22 rfl hm.len) <| vl (rm rfl rfl) <| vl (ad rfl rfl) <| vl (bd [(0, _)] Ty.p32 Ty.i32 rfl ⟨⟨rfl, rfl⟩, trivial⟩ rfl) <| ?_
     refine cl Tryz.call10 rfl (implWorldDo_c (kd := 15 + (more.length : Int) % 5) (a := 0) (b := 0) (c := 0) hE hK hW hil) ?_
     rintro _ w ⟨G4, W4, q4, hG4, rfl, hW4, hK⟩
     rw [wdF_yes hok, doW_unknown (by omega)] at hW4
     have hW := hW.mono hG4
     have hE := hE.mono hG4
     refine al hK Ty.i30 rfl ?_
     intro b9 w hK
     refine soS hK Ty.i30 0 rfl rfl rfl rfl (WdS.one hW4) rfl ?_
     intro w hK
     refine nl <| thn <| sq <| rg <| vl (lsO hK Ty.a30 Ty.s30 4 rfl rfl rfl) <| vl mv <| vl (ln Tryz.underlying22 rfl hm.len) <| vl (ngo rfl om) <| vl (rmt rfl rfl (by decide)) <| vl (bd [(0, _), (1, _)] Ty.p32 Ty.i32 rfl ⟨⟨rfl, rfl⟩, ⟨rfl, rfl⟩, trivial⟩ rfl) <| ?_
     have ht : (-(more.length : Int)).tmod 4 ≤ 0 := by rw [Int.neg_tmod, Int.tmod_eq_emod_of_nonneg (by omega)]; omega
     refine cl Tryz.call10 rfl (implWorldDo_c (a := 1) (b := 0) (c := 0) hE hK hW hil) ?_
     rintro _ w ⟨G5, W5, q5, hG5, rfl, hW5, hK⟩
     rw [wdF_yes hok, doW_unknown (.inl ht)] at hW5
     have hW := hW.mono hG5
     have hW4 := hW4.mono hG5
     have hE := hE.mono hG5
     refine al hK Ty.i30 rfl ?_
     intro b10 w hK
     refine soS hK Ty.i30 0 rfl rfl rfl rfl (WdS.one hW5) rfl ?_
     intro w hK
     refine nl <| thn <| sq <| rg <| vl (lsO hK Ty.a30 Ty.s30 5 rfl rfl rfl) <| vl mv <| vl (ln Tryz.underlying22 rfl hm.len) <| vl (rm rfl rfl) <| vl (ad rfl rfl) <| vl (bd [(0, _), (1, _), (2, _), (3, _)] Ty.p32 Ty.i32 rfl ⟨⟨rfl, rfl⟩, ⟨rfl, rfl⟩, ⟨rfl, rfl⟩, ⟨rfl, rfl⟩, trivial⟩ rfl) <| ?_
     refine cl Tryz.call10 rfl (implWorldDo_c (kd := 2 + (more.length : Int) % 8) (a := -1) (b := 3) (c := 4) hE hK hW hil) ?_
     rintro _ w ⟨G6, W6, q6, hG6, rfl, hW6, hK⟩
     rw [wdF_yes hok, doW_bad hok (by omega) (by omega) (by decide)] at hW6
     have hW := hW.mono hG6
     have hW4 := hW4.mono hG6
     have hW5 := hW5.mono hG6
     refine al hK Ty.i30 rfl ?_
     intro b11 w hK
     refine soS hK Ty.i30 0 rfl rfl rfl rfl (WdS.one hW6) rfl ?_
     intro w hK
     refine nl <| thn <| sq <| rg <| vl (lsO hK Ty.a30 Ty.s30 2 rfl rfl rfl) <| vl (lsO hK Ty.a30 Ty.s30 6 rfl rfl rfl) <| ?_
     refine cl Tryz.call12 rfl (sameWorld_c hK hW4 hW) ?_
     rintro _ w ⟨rfl, hK⟩
     refine vl (mB rfl) <| ?_
     refine spl (t := 67) rfl (fun h5 => ?_) (fun h5 => ?_)
     ·refine gy rfl <| vl (lsO hK Ty.a30 Ty.s30 1 rfl rfl rfl) <| gy rfl <| vl (lsO hK Ty.a30 Ty.s30 6 rfl rfl rfl) <| gy rfl <| ?_
      refine cl Tryz.call12 rfl (sameWorld_c hK hW5 hW) ?_
      rintro _ w ⟨rfl, hK⟩
      refine vl (pk rfl) <| vl (mB rfl) <| ?_
      refine spl (t := 72) rfl (fun h6 => ?_) (fun h6 => ?_)
      ·refine gy rfl <| vl (lsO hK Ty.a30 Ty.s30 0 rfl rfl rfl) <| gy rfl <| vl (lsO hK Ty.a30 Ty.s30 6 rfl rfl rfl) <| gy rfl <| ?_
       refine cl Tryz.call12 rfl (sameWorld_c hK hW6 hW) ?_
       rintro _ w ⟨rfl, hK⟩
       refine vl (pk rfl) <| vl (aB rfl) <| nl <| thn <| rt <| p1r (a := .bool _) rfl <| ?_
       exact ⟨congrArg Value.bool (dec_t rfl), _, _, hK, ((hG.trans hG4).trans hG5).trans hG6⟩
      ·exact absurd rfl (not_dec h6)
     ·exact absurd rfl (not_dec h5)
     
set_option maxRecDepth 20000 in
set_option maxHeartbeats 1000000 in
theorem FnWorldTake_c (hK : K e w G L) (hE : ErrS 208 G a0 a1) (hc : BytS G cva code) (hm : BytS G cvm more) : Ret Tryz.prog 8 #[cva, cvm] w (fun r w' => r = .bool true ∧ ∃ G' L', K e w' G' L' ∧ VLe G G') := by
 refine enter1 (args := [cva, cvm]) Tryz.func8 rfl rfl rfl rfl ?_
 refine sq <| rg <| ?_
 refine vl (aB rfl) <| nl <| thn <| sq <| sq <| rg <| vl mv <| vl (ln Tryz.underlying22 rfl hc.len) <| vl (gt rfl rfl) <| vl (mB rfl) <| ?_
 refine splP (t := 17) rfl (fun hbig => ?_) (fun hbig => ?_)
 ·refine gn rfl <| gn rfl <| gn rfl <| vl (pk rfl) <| nl <| thn <| ?_
  refine cdt rfl ?_
  refine sq <| rg <| ?_
  refine vl (aB rfl) <| nl <| thn <| rt <| thr <| p1r (a := .bool _) rfl <| ?_
  exact ⟨rfl, _, _, hK, VLe.refl _⟩
 ·refine gy rfl <| vl mv <| gy rfl <| vl (ln Tryz.underlying22 rfl hm.len) <| gy rfl <| vl (gt rfl rfl) <| vl (pk rfl) <| nl <| thn <| ?_
  refine cdP rfl (fun hbig2 => ?_) (fun hbig2 => ?_)
  ·refine sq <| rg <| ?_
   refine vl (aB rfl) <| nl <| thn <| rt <| thr <| p1r (a := .bool _) rfl <| ?_
   exact ⟨rfl, _, _, hK, VLe.refl _⟩
  ·refine sk <| thn <| sq <| rg <| ?_
   refine vl mv <| ?_
   refine cl Tryz.call9 rfl (DrawWorldDo_c hK hc) ?_
   rintro _ w ⟨G1, W, wd, rs, kd, a, b, c, rfl, hG1, hW, hil, hK⟩
   refine vl mv <| vl (ext rfl rfl) <| vl (ext rfl rfl) <| ?_
   refine al hK Ty.i30 rfl ?_
   intro b5 w hK
   refine al hK Ty.i32 rfl ?_
   intro b6 w hK
   refine soS hK Ty.i30 1 rfl rfl rfl rfl (WdS.one hW) rfl ?_
   intro w hK
   refine soS hK Ty.i32 0 rfl rfl rfl rfl rfl rfl ?_
   intro w hK
   refine nl <| thn <| sq <| rg <| vl (lsO hK Ty.a30 Ty.s30 1 rfl rfl rfl) <| vl (lsO hK Ty.a32 Ty.s32 0 rfl rfl rfl) <| ?_
   refine cl Tryz.call10 rfl (implWorldDo_c (hE.mono hG1) hK hW hil) ?_
   rintro _ w ⟨G2, W2, q2, hG2, rfl, hW2, hK⟩
   refine al hK Ty.i30 rfl ?_
   intro b7 w hK
   refine soS hK Ty.i30 0 rfl rfl rfl rfl (WdS.one hW2) rfl ?_
   intro w hK
   refine nl <| thn <| sq <| rg <| vl (lsO hK Ty.a30 Ty.s30 2 rfl rfl rfl) <| vl (lsO hK Ty.a32 Ty.s32 1 rfl rfl rfl) <| ?_
   refine cl Tryz.call11 rfl (specWorldDo_c hK (hW.mono hG2) hil) ?_
   rintro _ w ⟨G3, W3, q3, hG3, rfl, hW3, hK⟩
   have hG := (hG1.trans hG2).trans hG3
   replace hE := hE.mono hG
   replace hW := hW.mono (hG2.trans hG3)
   replace hW2 := hW2.mono hG3
   refine al hK Ty.i30 rfl ?_
   intro b8 w hK
   refine soS hK Ty.i30 0 rfl rfl rfl rfl (WdS.one hW3) rfl ?_
   intro w hK
   refine nl <| thn <| sq <| sq <| rg <| vl (lsO hK Ty.a30 Ty.s30 1 rfl rfl rfl) <| vl (lsO hK Ty.a30 Ty.s30 0 rfl rfl rfl) <| ?_
   refine cl Tryz.call12 rfl (sameWorld_c hK hW2 hW3) ?_
   rintro _ w ⟨rfl, hK⟩
   refine vl (ntB rfl) <| vl (mB rfl) <| ?_
   refine spl (t := 37) rfl (fun h1 => ?_) (fun h1 => ?_)
   ·exact absurd rfl (not_dec (Eq.mp (Bool.not_eq_true' _) h1))
   ·refine gy rfl <| vl (lsO hK Ty.a30 Ty.s30 3 rfl rfl rfl) <| gy rfl <| ?_
    refine cl Tryz.call13 rfl (specWorldValid_c hK hW om) ?_
    rintro _ w ⟨rfl, hK⟩
    refine gy rfl <| vl (ntB rfl) <| vl (pk rfl) <| nl <| thn <| ?_
    refine cdB rfl (fun h2 => ?_) (fun h2 => ?_)
    ·refine sq <| rg <| ?_
     refine vl (lsO hK Ty.a30 Ty.s30 1 rfl rfl rfl) <| vl (lsO hK Ty.a30 Ty.s30 0 rfl rfl rfl) <| ?_
     refine cl Tryz.call12 rfl (sameWorld_c hK hW2 hW3) ?_
     rintro _ w ⟨rfl, hK⟩
     refine vl (aB rfl) <| nl <| thn <| rt <| thr <| p1r (a := .bool _) rfl <| ?_
     exact ⟨congrArg Value.bool (dec_t rfl), _, _, hK, hG⟩
    ·have hok : WdOk wd := of_dec (Eq.mp (Bool.not_eq_false' _) h2)
     rw [wdF_yes hok] at hW2 hW3
     refine sk <| thn <| sq <| rg <| ?_
     refine vl mv <| vl (ln Tryz.underlying22 rfl hm.len) <| vl (rm rfl rfl) <| vl (aI rfl) <| nl <| thn <| sq <| rg <| vl (fa Tryz.underlying30 rfl Ty.z24 rfl) <| vl (ldO hK Ty.o24 3 rfl rfl rfl) <| vl (mI rfl) <| ?_
     have hpt : Pt ((more.length : Int) % 64) := by unfold Pt; omega
     have hrl : rs.length = wd.ring.length := by rw [← hW.rg]; simp [rgl]
     have hr3 := rg_pos hok
     obtain ⟨m, hm1, hm2⟩ : ∃ m : Nat, (more.length : Int) % (rs.length : Int) = (m : Int) ∧ m < rs.length := ⟨more.length % rs.length, by simp, Nat.mod_lt _ (by omega)⟩
     have hid : rs[m].1 ∈ ids wd.ring := by rw [← hW.rg]; exact ids_at hm2
     have hT := take_law hok hpt hid
     have hs := hW.ring.sl
     have e1 := hW.now
     refine cl Tryz.call17 rfl (holder_c hK hW.leases hok.wda.ls hpt) ?_
     rintro _ w ⟨rfl, hK⟩
     refine vl mv <| vl (ext rfl rfl) <| vl (ext rfl rfl) <| vl (aI rfl) <| vl (aI rfl) <| nl <| thn <| sq <| ?_
     refine rgq (fun w => K _ w _ _) Ty.mixed kr (hK.drawn _) ?_
     refine qv (fun w hK => (fa Tryz.underlying30 rfl Ty.z23 rfl)) <| ?_; refine qldO Ty.o23 3 rfl rfl rfl <| ?_; refine qv (fun w hK => mv) <| ?_; refine qv (fun w hK => (ln Tryz.underlying22 rfl hm.len)) <| ?_; refine qv (fun w hK => (fa Tryz.underlying30 rfl Ty.z23 rfl)) <| ?_; refine qldO Ty.o23 3 rfl rfl rfl <| ?_; refine qv (fun w hK => (ln Tryz.underlying23 rfl hs.len)) <| ?_; refine qv (fun w hK => (rm rfl rfl)) <| ?_; refine qv (fun w hK => (ixm (m := m) Tryz.underlying23 Ty.s45 rfl hs.1 rfl om om)) <| ?_; refine qv (fun w hK => (fe Tryz.underlying45 rfl Ty.z3 rfl hs.1 om)) <| ?_; refine qldV Ty.o3 rfl (hs.cell om 0 rfl) <| ?_; refine qv (fun w hK => (aI rfl)) <| ?_; refine qn <| ?_
     intro w hK
     refine thn <| sq <| rg <| vl (lsO hK Ty.a30 Ty.s30 3 rfl rfl rfl) <| vl (mI rfl) <| vl (mI rfl) <| vl (bd [(0, _), (1, _), (2, _)] Ty.p32 Ty.i32 rfl ⟨⟨rfl, rfl⟩, ⟨rfl, rfl⟩, ⟨rfl, rfl⟩, trivial⟩ rfl) <| ?_
     refine cl Tryz.call10 rfl (implWorldDo_c (kd := 8) (c := 0) hE hK hW hil) ?_
     rintro _ w ⟨G4, W4, q4, hG4, rfl, hW4, hK⟩
     rw [wdF_yes hok] at hW4
     have hW := hW.mono hG4
     have hd := (doW_ok hok 8 rs[m].1 ((more.length : Int) % 64) 0).wda.zl
     refine al hK Ty.i30 rfl ?_
     intro b13 w hK
     refine soS hK Ty.i30 0 rfl rfl rfl rfl (WdS.one hW4) rfl ?_
     intro w hK
     refine nl <| thn <| sq <| sq <| rg <| vl (mI rfl) <| vl (fa Tryz.underlying30 rfl Ty.z3 rfl) <| vl (ldO hK Ty.o3 4 rfl rfl rfl) <| vl (ge rfl rfl) <| nl <| thn <| ?_
     refine cdP rfl (fun h3 => ?_) (fun h3 => ?_)
     ·refine sq <| rg <| ?_
      refine vl (lsO hK Ty.a30 Ty.s30 0 rfl rfl rfl) <| vl (lsO hK Ty.a30 Ty.s30 4 rfl rfl rfl) <| ?_
      refine cl Tryz.call12 rfl (sameWorld_c hK hW4 hW) ?_
      rintro _ w ⟨rfl, hK⟩
      refine vl (aB rfl) <| nl <| thn <| rt <| thr <| p1r (a := .bool _) rfl <| ?_
      exact ⟨congrArg Value.bool (dec_t (hT.1 (by omega))), _, _, hK, hG.trans hG4⟩
     ·refine sk <| thn <| sq <| rg <| ?_
      refine vl (lsO hK Ty.a30 Ty.s30 4 rfl rfl rfl) <| vl (mI rfl) <| ?_
      have hT2 := hT.2 (by omega)
      refine cl Tryz.call16 rfl (WorldOwner_c hK hW om) ?_
      rintro _ w ⟨⟨n, rfl, _, hn, _⟩, G5, hG5, hK⟩
      have hn1 : n = -1 := (hn hok hpt).trans hT2.1
      refine vl (eq rfl rfl) <| vl (mB rfl) <| ?_
      refine splP (t := 82) rfl (fun h4 => ?_) (fun h4 => ?_)
      ·refine gy rfl <| vl (lsO hK Ty.a30 Ty.s30 0 rfl rfl rfl) <| gy rfl <| vl (mI rfl) <| gy rfl <| ?_
       refine cl Tryz.call16 rfl (WorldOwner_c hK (hW4.mono hG5) om) ?_
       rintro _ w ⟨⟨n2, rfl, _, hn2, _⟩, G6, hG6, hK⟩
       have hn3 := (hn2 (doW_ok hok _ _ _ _) hpt).trans hT2.2
       refine gy rfl <| vl (mI rfl) <| gy rfl <| vl (eq rfl rfl) <| vl (pk rfl) <| vl (aB rfl) <| nl <| thn <| rt <| p1r (a := .bool _) rfl <| ?_
       exact ⟨congrArg Value.bool (decide_eq_true hn3), _, _, hK, ((hG.trans hG4).trans hG5).trans hG6⟩
      ·exact absurd hn1 h4
     
end
end Go.Proofs.YtnpignnmgfdhkaaGreatDoor
