/- The law on one event of a world, exactly. Conditions: those that each row states. -/
import Derived.Test.YtmgggljicpmndaaGreatDoorXl1
import Derived.Test.YtmgggljicpmndaaGreatDoorXt1
import Derived.Test.YtmgggljicpmndaaGreatDoorWe2
namespace Go.Proofs.YtmgggljicpmndaaGreatDoor
open Go Go.Ro Tryz
section
variable {e w : World} {G : View} {L : Own} {v u : Value} {rs qs : List Rn} {W W' : Wv} {wd wd' : Wd} {a b c kd n m k : Int} {a0 a1 : Addr}
theorem toEvent_c (hK : K e w G L) : Ret prog 20 #[.agg (ec kd a b c).toArray] w (fun r w' => r = .agg (ec kd a b c).toArray ∧ K e w' G L) := by
 refine enterG1 (args := [.agg (ec kd a b c).toArray]) func20 rfl rfl rfl rfl ?_
 refine sq <| rg <| ?_
 refine bx hK rfl rfl ?_
 intro b1 w hK
 refine al hK Ty.i55 rfl ?_
 intro b2 w hK
 refine nl <| thn <| sq <| rg <| ?_
 refine al hK Ty.i55 rfl ?_
 intro b3 w hK
 refine nl <| thn <| sq <| rg <| vl (fa underlying51 rfl Ty.z3 rfl) <| vl (ldO hK Ty.o3 2 rfl rfl rfl) <| vl (fa underlying55 rfl Ty.z3 rfl) <| ?_
 refine so hK Ty.i3 rfl 0 rfl rfl rfl rfl rfl ?_
 intro w hK
 refine nl <| thn <| sq <| rg <| vl (fa underlying51 rfl Ty.z3 rfl) <| vl (ldO hK Ty.o3 2 rfl rfl rfl) <| vl (fa underlying55 rfl Ty.z3 rfl) <| ?_
 refine so hK Ty.i3 rfl 0 rfl rfl rfl rfl rfl ?_
 intro w hK
 refine nl <| thn <| sq <| rg <| vl (fa underlying51 rfl Ty.z3 rfl) <| vl (ldO hK Ty.o3 2 rfl rfl rfl) <| vl (fa underlying55 rfl Ty.z3 rfl) <| ?_
 refine so hK Ty.i3 rfl 0 rfl rfl rfl rfl rfl ?_
 intro w hK
 refine nl <| thn <| sq <| rg <| vl (fa underlying51 rfl Ty.z3 rfl) <| vl (ldO hK Ty.o3 2 rfl rfl rfl) <| vl (fa underlying55 rfl Ty.z3 rfl) <| ?_
 refine so hK Ty.i3 rfl 0 rfl rfl rfl rfl rfl ?_
 intro w hK
 refine nl <| thn <| sq <| rg <| vl (lsO hK Ty.a55 Ty.s55 0 rfl rfl rfl) <| ?_
 refine soS hK Ty.i55 1 rfl rfl rfl rfl rfl rfl ?_
 intro w hK
 refine nl <| thn <| rt <| pg1r (rvS hK Ty.a55 Ty.s55 1 rfl rfl rfl) <| ?_
 exact ⟨rfl, hK.drop1.drop1.drop1⟩
theorem wdL_sz (hl : WdL wd) (hr : rgl rs = wd.ring) : wsz wd rs ≤ 2000000000000 := by
 obtain ⟨g1, g2, g3, g4, g5, g6⟩ := hl
 have h1 : nsz rs ≤ 1048578 * rs.length := by
  rw [nsz_rg, hr]
  have h2 : (wd.ring.map fun n => 2 + n.2.2.length).length = rs.length := by rw [List.length_map, ← hr, rg_len]
  rw [← h2]
  refine sum_le fun x hx => ?_
  obtain ⟨y, hy, rfl⟩ := List.mem_map.1 hx
  have := g2 y hy; omega
 have h3 : rs.length ≤ 1048576 := by rw [← hr, rg_len] at g1; exact g1
 unfold wsz
 omega
theorem wdok_sz (h : WdOk wd) (hr : rgl rs = wd.ring) : wsz wd rs ≤ 100000 := by
 have hrg : RgOk wd.ring := h.2.1.1
 have h1 : nsz rs ≤ 4 * rs.length := by
  rw [nsz_rg, hr]
  have h2 : (wd.ring.map fun n => 2 + n.2.2.length).length = rs.length := by rw [List.length_map, ← hr, rg_len]
  rw [← h2]
  refine sum_le fun x hx => ?_
  obtain ⟨y, hy, rfl⟩ := List.mem_map.1 hx
  have := (hrg.2.1 y hy).2.2.1; omega
 have h3 : rs.length ≤ 10 := by have := hrg.1; rw [← hr, rg_len] at this; exact this
 have h4 := h.2.2.1.1.2
 have h5 := h.wda.zl
 have h6 := h.2.2.2.2.1.2.1.len
 have h7 := h.2.2.2.2.2.1.len
 unfold wsz
 omega
theorem wdZ_sz (hr : rgl rs = wdZ.ring) : wsz wdZ rs ≤ 100000 := by
 have : rs = [] := by
  have := congrArg List.length hr
  rw [rg_len] at this
  exact List.eq_nil_of_length_eq_zero this
 subst this
 unfold wsz wdZ nsz; simp
theorem wdF_sz (hr : rgl rs = (wdF wd kd a b c).ring) : wsz (wdF wd kd a b c) rs ≤ 100000 := by
 by_cases h : WdOk wd
 ·rw [wdF_yes h] at hr ⊢; exact wdok_sz (doW_ok h kd a b c) hr
 ·rw [wdF_no h] at hr ⊢; exact wdZ_sz hr
set_option maxHeartbeats 2000000 in
theorem FnExactWorldDo_c (hK : K e w G L) (hE : ErrS 228 0 1 G a0 a1) (hW : WdS G lc W wd rs) : Ret prog 4 #[.agg (wc W).toArray, .agg (ec kd a b c).toArray] w (fun r w' => r = .bool true ∧ ∃ G' L', K e w' G' L' ∧ VLe G G') := by
 refine enter1 (args := [.agg (wc W).toArray, .agg (ec kd a b c).toArray]) func4 rfl rfl rfl rfl ?_
 refine sq <| rg <| ?_
 refine bx hK rfl rfl ?_
 intro b2 w hK
 refine bx hK rfl rfl ?_
 intro b3 w hK
 refine vl (aB rfl) <| nl <| thn <| sq <| rg <| vl (aI rfl) <| nl <| thn <| sq <| rg <| vl (lsO hK Ty.a49 Ty.s49 1 rfl rfl rfl) <| vl (mI rfl) <| ?_
 refine cl call17 rfl (szWorld_c hK hW om om) ?_
 rintro _ w ⟨⟨m, rfl, hl⟩, hK⟩
 refine vl (aI rfl) <| nl <| thn <| sq <| sq <| rg <| vl (mI rfl) <| vl (lt rfl rfl) <| nl <| thn <| ?_
 refine cdP rfl (fun hneg => ?_) fun hneg => ?_
 ·refine sq <| rg <| ?_
  refine vl (aB rfl) <| nl <| thn <| rt <| thr <| p1r (a := .bool _) rfl <| ?_
  exact ⟨rfl, _, _, hK, VLe.refl _⟩
 ·have hl := hl (by omega)
  have hzl : wd.items.length ≤ 1048576 := hl.2.2.2.1
  replace hK : K e w G ((b3, row (ec kd a b c) 51) :: (b2, row (wc W) 49) :: L) := hK
  refine sk <| thn <| sq <| ?_
  refine ct (σ := Nat × View × Wv × List Rn) (fun s => [(2, .pointer (some ⟨b2, 0, none⟩)), (3, .pointer (some ⟨b3, 0, none⟩)), (6, .pointer (some ⟨s.1, 0, none⟩))]) (fun s w => VLe G s.2.1 ∧ WdS s.2.1 lc s.2.2.1 (wdF wd kd a b c) s.2.2.2 ∧ K e w s.2.1 ((s.1, row (wc s.2.2.1) 31) :: (b3, row (ec kd a b c) 51) :: (b2, row (wc W) 49) :: L)) ?_ ?_
  ·skip
   refine rgs (fun w => K e w G ((b3, row (ec kd a b c) 51) :: (b2, row (wc W) 49) :: L)) (fun w => K _ w _ _) [U,U,U,U,U,U,U] 7 Ty.mixed rfl rfl (hK.drawn _) ?_
   intro w hK
   have hS : (fun w => K e w G ((b3, row (ec kd a b c) 51) :: (b2, row (wc W) 49) :: L)) w := K.sl hK
   refine xt (i := 0) rfl kr rfl rfl (fun w hK => (lsO hK Ty.a49 Ty.s49 1 rfl rfl rfl)) hS <| xt (i := 2) rfl kr rfl rfl (fun w hK => (lsO hK Ty.a51 Ty.s51 0 rfl rfl rfl)) hS <| ?_
   refine xe2 (i := 1) (j := 5) kr rfl rfl rfl rfl ?_ ?_
   ·skip
    refine cl call19 rfl (toWorld_v hK hW hl) ?_
    rintro _ w ⟨G1, W1, q1, rfl, hG1, hW1, hK⟩
    refine xnk ((K.vle (K.sl hK) hG1)) fun hS => ?_
    refine xe2 (i := 3) (j := 5) kr rfl rfl rfl rfl ?_ ?_
    ·skip
     refine cl call20 rfl (toEvent_c hK) ?_
     rintro _ w ⟨rfl, hK⟩
     refine xnk ((K.vle (K.sl hK) hG1)) fun hS => ?_
     refine xe2 (i := 4) (j := 5) kr rfl rfl rfl rfl ?_ ?_
     ·skip
      refine cl call18 rfl (specWorldDo_c hK hW1 hzl) ?_
      rintro _ w ⟨G2, Ww, qw, hG2, rfl, hWw, hK⟩
      refine xnk ((K.vle (K.sl hK) (hG1.trans hG2))) fun hS => ?_
      refine xe (i := 5) kr rfl rfl ?_
      refine al hK Ty.i31 rfl ?_
      intro b6 w hK
      refine xnk ((K.vle (K.sl hK) (hG1.trans hG2))) fun hS => ?_
      refine xe (i := 6) kr rfl rfl ?_
      refine soS hK Ty.i31 0 rfl rfl rfl rfl (WdS.one hWw) rfl ?_
      intro w hK
      refine xnk ((K.vle (K.sl hK) (hG1.trans hG2))) fun hS => ?_
      refine xd kr <| ctn <| ?_
      replace hK : K e w G2 ((b6, row (wc Ww) 31) :: (b3, row (ec kd a b c) 51) :: (b2, row (wc W) 49) :: L) := hK
      exact ⟨(b6, G2, Ww, qw), ⟨rfl, rfl, rfl, trivial⟩, hG1.trans hG2, hWw, hK⟩
     ·refine al hK Ty.i31 rfl ?_
      intro b6 w hK
      refine xnk ((K.vle (K.sl hK) hG1)) fun hS => ?_
      refine xe (i := 4) kr rfl rfl ?_
      refine cl call18 rfl (specWorldDo_c hK hW1 hzl) ?_
      rintro _ w ⟨G2, Ww, qw, hG2, rfl, hWw, hK⟩
      refine xnk ((K.vle (K.sl hK) (hG1.trans hG2))) fun hS => ?_
      refine xe (i := 6) kr rfl rfl ?_
      refine soS hK Ty.i31 0 rfl rfl rfl rfl (WdS.one hWw) rfl ?_
      intro w hK
      refine xnk ((K.vle (K.sl hK) (hG1.trans hG2))) fun hS => ?_
      refine xd kr <| ctn <| ?_
      replace hK : K e w G2 ((b6, row (wc Ww) 31) :: (b3, row (ec kd a b c) 51) :: (b2, row (wc W) 49) :: L) := hK
      exact ⟨(b6, G2, Ww, qw), ⟨rfl, rfl, rfl, trivial⟩, hG1.trans hG2, hWw, hK⟩
    ·refine al hK Ty.i31 rfl ?_
     intro b6 w hK
     refine xnk ((K.vle (K.sl hK) hG1)) fun hS => ?_
     refine xe (i := 3) kr rfl rfl ?_
     refine cl call20 rfl (toEvent_c hK) ?_
     rintro _ w ⟨rfl, hK⟩
     refine xnk ((K.vle (K.sl hK) hG1)) fun hS => ?_
     refine xe (i := 4) kr rfl rfl ?_
     refine cl call18 rfl (specWorldDo_c hK hW1 hzl) ?_
     rintro _ w ⟨G2, Ww, qw, hG2, rfl, hWw, hK⟩
     refine xnk ((K.vle (K.sl hK) (hG1.trans hG2))) fun hS => ?_
     refine xe (i := 6) kr rfl rfl ?_
     refine soS hK Ty.i31 0 rfl rfl rfl rfl (WdS.one hWw) rfl ?_
     intro w hK
     refine xnk ((K.vle (K.sl hK) (hG1.trans hG2))) fun hS => ?_
     refine xd kr <| ctn <| ?_
     replace hK : K e w G2 ((b6, row (wc Ww) 31) :: (b3, row (ec kd a b c) 51) :: (b2, row (wc W) 49) :: L) := hK
     exact ⟨(b6, G2, Ww, qw), ⟨rfl, rfl, rfl, trivial⟩, hG1.trans hG2, hWw, hK⟩
   ·refine al hK Ty.i31 rfl ?_
    intro b6 w hK
    refine xnk (K.sl hK) fun hS => ?_
    refine xe (i := 1) kr rfl rfl ?_
    refine cl call19 rfl (toWorld_v hK hW hl) ?_
    rintro _ w ⟨G1, W1, q1, rfl, hG1, hW1, hK⟩
    refine xnk ((K.vle (K.sl hK) hG1)) fun hS => ?_
    refine xe (i := 3) kr rfl rfl ?_
    refine cl call20 rfl (toEvent_c hK) ?_
    rintro _ w ⟨rfl, hK⟩
    refine xnk ((K.vle (K.sl hK) hG1)) fun hS => ?_
    refine xe (i := 4) kr rfl rfl ?_
    refine cl call18 rfl (specWorldDo_c hK hW1 hzl) ?_
    rintro _ w ⟨G2, Ww, qw, hG2, rfl, hWw, hK⟩
    refine xnk ((K.vle (K.sl hK) (hG1.trans hG2))) fun hS => ?_
    refine xe (i := 6) kr rfl rfl ?_
    refine soS hK Ty.i31 0 rfl rfl rfl rfl (WdS.one hWw) rfl ?_
    intro w hK
    refine xnk ((K.vle (K.sl hK) (hG1.trans hG2))) fun hS => ?_
    refine xd kr <| ctn <| ?_
    replace hK : K e w G2 ((b6, row (wc Ww) 31) :: (b3, row (ec kd a b c) 51) :: (b2, row (wc W) 49) :: L) := hK
    exact ⟨(b6, G2, Ww, qw), ⟨rfl, rfl, rfl, trivial⟩, hG1.trans hG2, hWw, hK⟩
  ·rintro ⟨q6, G2, Ww, qw⟩ g w ⟨hG2, hWw, hK⟩
   simp only at hG2 hWw hK
   refine thn <| sq <| rg <| ?_
   refine vl (lsO hK Ty.a49 Ty.s49 2 rfl rfl rfl) <| ?_
   refine cl call19 rfl (toWorldF_v hK (hW.mono hG2) hl) ?_
   rintro _ w ⟨G3, Wx, qx, rfl, hG3, hWx, hFx, hK⟩
   refine al hK Ty.i31 rfl ?_
   intro b7 w hK
   refine soS hK Ty.i31 0 rfl rfl rfl rfl (WdS.one hWx) rfl ?_
   intro w hK
   refine nl <| thn <| sq <| ?_
   replace hK : K e w G3 ((b7, row (wc Wx) 31) :: (q6, row (wc Ww) 31) :: (b3, row (ec kd a b c) 51) :: (b2, row (wc W) 49) :: L) := hK
   refine ct (σ := Nat × View × Wv × List Rn) (fun s => [(2, .pointer (some ⟨b2, 0, none⟩)), (3, .pointer (some ⟨b3, 0, none⟩)), (6, .pointer (some ⟨q6, 0, none⟩)), (7, .pointer (some ⟨b7, 0, none⟩)), (8, .pointer (some ⟨s.1, 0, none⟩))]) (fun s w => VLe G3 s.2.1 ∧ WdS s.2.1 lc s.2.2.1 (wdF wd kd a b c) s.2.2.2 ∧ WdF lc 98 101 104 3 G3 s.2.1 s.2.2.1 (wdF wd kd a b c) s.2.2.2 ∧ K e w s.2.1 ((s.1, row (wc s.2.2.1) 31) :: (b7, row (wc Wx) 31) :: (q6, row (wc Ww) 31) :: (b3, row (ec kd a b c) 51) :: (b2, row (wc W) 49) :: L)) ?_ ?_
   ·skip
    refine rgs (fun w => K e w G3 ((b7, row (wc Wx) 31) :: (b3, row (ec kd a b c) 51) :: L)) (fun w => K _ w _ _) [U,U,U,U,U,U] 6 Ty.mixed rfl rfl (hK.drawn _) ?_
    intro w hK
    have hS : (fun w => K e w G3 ((b7, row (wc Wx) 31) :: (b3, row (ec kd a b c) 51) :: L)) w := K.sl hK
    refine xt (i := 0) rfl kr rfl rfl (fun w hK => (lsO hK Ty.a31 Ty.s31 0 rfl rfl rfl)) hS <| xt (i := 1) rfl kr rfl rfl (fun w hK => (lsO hK Ty.a51 Ty.s51 1 rfl rfl rfl)) hS <| ?_
    refine xe2 (i := 2) (j := 4) kr rfl rfl rfl rfl ?_ ?_
    ·skip
     refine cl call20 rfl (toEvent_c hK) ?_
     rintro _ w ⟨rfl, hK⟩
     refine xnk (K.sl hK) fun hS => ?_
     refine xe2 (i := 3) (j := 4) kr rfl rfl rfl rfl ?_ ?_
     ·skip
      refine cl call21 rfl (implWorldDoF_c (hE.mono (hG2.trans hG3)) hK hWx hzl) ?_
      rintro _ w ⟨G4, Wg, qg, hG4, rfl, hWg, hFg, hK⟩
      refine xnk ((K.vle (K.sl hK) hG4)) fun hS => ?_
      refine xe (i := 4) kr rfl rfl ?_
      refine al hK Ty.i31 rfl ?_
      intro b8 w hK
      refine xnk ((K.vle (K.sl hK) hG4)) fun hS => ?_
      refine xe (i := 5) kr rfl rfl ?_
      refine soS hK Ty.i31 0 rfl rfl rfl rfl (WdS.one hWg) rfl ?_
      intro w hK
      refine xnk ((K.vle (K.sl hK) hG4)) fun hS => ?_
      refine xd kr <| ctn <| ?_
      replace hK : K e w G4 ((b8, row (wc Wg) 31) :: (b7, row (wc Wx) 31) :: (q6, row (wc Ww) 31) :: (b3, row (ec kd a b c) 51) :: (b2, row (wc W) 49) :: L) := hK
      exact ⟨(b8, G4, Wg, qg), ⟨rfl, rfl, rfl, rfl, rfl, trivial⟩, hG4, hWg, hFg, hK⟩
     ·refine al hK Ty.i31 rfl ?_
      intro b8 w hK
      refine xnk (K.sl hK) fun hS => ?_
      refine xe (i := 3) kr rfl rfl ?_
      refine cl call21 rfl (implWorldDoF_c (hE.mono (hG2.trans hG3)) hK hWx hzl) ?_
      rintro _ w ⟨G4, Wg, qg, hG4, rfl, hWg, hFg, hK⟩
      refine xnk ((K.vle (K.sl hK) hG4)) fun hS => ?_
      refine xe (i := 5) kr rfl rfl ?_
      refine soS hK Ty.i31 0 rfl rfl rfl rfl (WdS.one hWg) rfl ?_
      intro w hK
      refine xnk ((K.vle (K.sl hK) hG4)) fun hS => ?_
      refine xd kr <| ctn <| ?_
      replace hK : K e w G4 ((b8, row (wc Wg) 31) :: (b7, row (wc Wx) 31) :: (q6, row (wc Ww) 31) :: (b3, row (ec kd a b c) 51) :: (b2, row (wc W) 49) :: L) := hK
      exact ⟨(b8, G4, Wg, qg), ⟨rfl, rfl, rfl, rfl, rfl, trivial⟩, hG4, hWg, hFg, hK⟩
    ·refine al hK Ty.i31 rfl ?_
     intro b8 w hK
     refine xnk (K.sl hK) fun hS => ?_
     refine xe (i := 2) kr rfl rfl ?_
     refine cl call20 rfl (toEvent_c hK) ?_
     rintro _ w ⟨rfl, hK⟩
     refine xnk (K.sl hK) fun hS => ?_
     refine xe (i := 3) kr rfl rfl ?_
     refine cl call21 rfl (implWorldDoF_c (hE.mono (hG2.trans hG3)) hK hWx hzl) ?_
     rintro _ w ⟨G4, Wg, qg, hG4, rfl, hWg, hFg, hK⟩
     refine xnk ((K.vle (K.sl hK) hG4)) fun hS => ?_
     refine xe (i := 5) kr rfl rfl ?_
     refine soS hK Ty.i31 0 rfl rfl rfl rfl (WdS.one hWg) rfl ?_
     intro w hK
     refine xnk ((K.vle (K.sl hK) hG4)) fun hS => ?_
     refine xd kr <| ctn <| ?_
     replace hK : K e w G4 ((b8, row (wc Wg) 31) :: (b7, row (wc Wx) 31) :: (q6, row (wc Ww) 31) :: (b3, row (ec kd a b c) 51) :: (b2, row (wc W) 49) :: L) := hK
     exact ⟨(b8, G4, Wg, qg), ⟨rfl, rfl, rfl, rfl, rfl, trivial⟩, hG4, hWg, hFg, hK⟩
   ·rintro ⟨q8, G4, Wg, qg⟩ g w ⟨hG4, hWg, hFg, hK⟩
    simp only at hG4 hWg hFg hK
    have htk := hFg.take hK hG4
    obtain ⟨G5, og, gR, gL, gI, gT, gS, hG5, hog, hTg, hK⟩ := htk
    subst hog
    have htx := (hFx.mono hG5).take hK (hG3.trans hG5)
    obtain ⟨G6, ox, xR, xL, xI, xT, xS, hG6, hox, hTx, hK⟩ := htx
    subst hox
    have hgg : Wg.now = (wdF wd kd a b c).now ∧ rgl (toRs og) = (wdF wd kd a b c).ring ∧ Wg.next = (wdF wd kd a b c).scan.1 := ⟨hWg.now, hWg.rg, hWg.next⟩
    have hgx : Wx.now = wd.now ∧ rgl (toRs ox) = wd.ring ∧ Wx.next = wd.scan.1 := ⟨hWx.now, hWx.rg, hWx.next⟩
    have hsg := wdF_sz hgg.2.1
    have hsx := wdL_sz hl hgx.2.1
    have hGa := hG2.trans hG6
    replace hWw := hWw.mono hG6
    clear hFg hFx hWg hWx hG3 hG4 hG5
    replace hK : K _ _ _ ((q8, row (wc Wg) 31) :: (b7, row (wc Wx) 31) :: (q6, row (wc Ww) 31) :: (b3, row (ec kd a b c) 51) :: (b2, row (wc W) 49) :: (xR ++ (flat (uso ox) ++ (xL ++ (xI ++ (xT ++ (xS ++ (gR ++ (flat (uso og) ++ (gL ++ (gI ++ (gT ++ (gS ++ (L)))))))))))))) := hK.reo
    refine thn <| sq <| sq <| rg <| ?_
    refine vl (lsO hK Ty.a31 Ty.s31 0 rfl rfl rfl) <| vl (lsO hK Ty.a31 Ty.s31 2 rfl rfl rfl) <| ?_
    replace hK : K _ _ _ (gR ++ (flat (uso og) ++ (gL ++ (gI ++ (gT ++ (gS ++ ((q8, row (wc Wg) 31) :: (b7, row (wc Wx) 31) :: (q6, row (wc Ww) 31) :: (b3, row (ec kd a b c) 51) :: (b2, row (wc W) 49) :: (xR ++ (flat (uso ox) ++ (xL ++ (xI ++ (xT ++ (xS ++ (L)))))))))))))) := hK.reo
    refine cl call10 rfl (eqWorld_ot hK hTg hgg hWw) ?_
    rintro _ w ⟨rfl, hK⟩
    replace hK : K _ _ _ ((q8, row (wc Wg) 31) :: (b7, row (wc Wx) 31) :: (q6, row (wc Ww) 31) :: (b3, row (ec kd a b c) 51) :: (b2, row (wc W) 49) :: (xR ++ (flat (uso ox) ++ (xL ++ (xI ++ (xT ++ (xS ++ (gR ++ (flat (uso og) ++ (gL ++ (gI ++ (gT ++ (gS ++ (L)))))))))))))) := hK.reo
    refine vl (ntB rfl) <| nl <| thn <| ?_
    refine cdf rfl ?_
    refine sk <| thn <| sq <| sq <| ?_
    refine rgs (fun w => K e w G6 ((b7, row (wc Wx) 31) :: (b2, row (wc W) 49) :: L)) (fun w => K _ w _ _) [U,U,U,U,U] 5 Ty.mixed rfl rfl (hK.drawn _) ?_
    intro w hK
    have hS : (fun w => K e w G6 ((b7, row (wc Wx) 31) :: (b2, row (wc W) 49) :: L)) w := K.sl hK
    refine xt (i := 0) rfl kr rfl rfl (fun w hK => (lsO hK Ty.a31 Ty.s31 0 rfl rfl rfl)) hS <| xt (i := 1) rfl kr rfl rfl (fun w hK => (lsO hK Ty.a49 Ty.s49 1 rfl rfl rfl)) hS <| ?_
    refine xe (i := 2) kr rfl rfl ?_
    refine cl call19 rfl (toWorld_v hK (hW.mono hGa) hl) ?_
    rintro _ w ⟨G7, Wz, qz, rfl, hG7, hWz, hK⟩
    refine xnk ((K.vle (K.sl hK) hG7)) fun hS => ?_
    refine xe (i := 3) kr rfl rfl ?_
    replace hK : K _ _ _ (xR ++ (flat (uso ox) ++ (xL ++ (xI ++ (xT ++ (xS ++ ((q8, row (wc Wg) 31) :: (b7, row (wc Wx) 31) :: (q6, row (wc Ww) 31) :: (b3, row (ec kd a b c) 51) :: (b2, row (wc W) 49) :: (gR ++ (flat (uso og) ++ (gL ++ (gI ++ (gT ++ (gS ++ (L)))))))))))))) := hK.reo
    refine cl call10 rfl (eqWorld_ot hK hTx hgx hWz) ?_
    rintro _ w ⟨rfl, hK⟩
    replace hK : K _ _ _ ((q8, row (wc Wg) 31) :: (b7, row (wc Wx) 31) :: (q6, row (wc Ww) 31) :: (b3, row (ec kd a b c) 51) :: (b2, row (wc W) 49) :: (xR ++ (flat (uso ox) ++ (xL ++ (xI ++ (xT ++ (xS ++ (gR ++ (flat (uso og) ++ (gL ++ (gI ++ (gT ++ (gS ++ (L)))))))))))))) := hK.reo
    refine xnk ((K.vle (K.sl hK) hG7)) fun hS => ?_
    refine xt (i := 4) rfl kr rfl rfl (fun w hK => (ntB rfl)) hS <| xd kr <| thn <| ?_
    refine cdf rfl ?_
    refine sk <| thn <| sq <| rg <| ?_
    refine vl (aI rfl) <| nl <| thn <| sq <| rg <| vl (lsO hK Ty.a31 Ty.s31 1 rfl rfl rfl) <| vl (mI rfl) <| ?_
    replace hGa := hGa.trans hG7
    replace hWw := hWw.mono hG7
    replace hK : K _ _ _ (xR ++ (flat (uso ox) ++ (xL ++ (xI ++ (xT ++ (xS ++ ((q8, row (wc Wg) 31) :: (b7, row (wc Wx) 31) :: (q6, row (wc Ww) 31) :: (b3, row (ec kd a b c) 51) :: (b2, row (wc W) 49) :: (gR ++ (flat (uso og) ++ (gL ++ (gI ++ (gT ++ (gS ++ (L)))))))))))))) := hK.reo
    refine cl call15 rfl (markWorld_c hK hTx om om) ?_
    rintro _ w ⟨rfl, wd1, ox1, xR1, xL1, xI1, xT1, xS1, hTx1, _, _, _, hK⟩
    replace hK : K _ _ _ ((q8, row (wc Wg) 31) :: (b7, row (wc Wx) 31) :: (q6, row (wc Ww) 31) :: (b3, row (ec kd a b c) 51) :: (b2, row (wc W) 49) :: (xR1 ++ (flat (uso ox1) ++ (xL1 ++ (xI1 ++ (xT1 ++ (xS1 ++ (gR ++ (flat (uso og) ++ (gL ++ (gI ++ (gT ++ (gS ++ (L)))))))))))))) := hK.reo
    refine vl (aI rfl) <| nl <| thn <| sq <| sq <| rg <| vl (mI rfl) <| vl (lt rfl rfl) <| vl (mB rfl) <| ?_
    refine splP (t := 43) rfl (fun e5 => ?_) fun e5 => ?_
    ·exfalso; omega
    ·have _ := trivial
     refine gy rfl <| vl (lsO hK Ty.a31 Ty.s31 0 rfl rfl rfl) <| gy rfl <| vl (lsO hK Ty.a31 Ty.s31 2 rfl rfl rfl) <| gy rfl <| ?_
     replace hK : K _ _ _ (gR ++ (flat (uso og) ++ (gL ++ (gI ++ (gT ++ (gS ++ ((q8, row (wc Wg) 31) :: (b7, row (wc Wx) 31) :: (q6, row (wc Ww) 31) :: (b3, row (ec kd a b c) 51) :: (b2, row (wc W) 49) :: (xR1 ++ (flat (uso ox1) ++ (xL1 ++ (xI1 ++ (xT1 ++ (xS1 ++ (L)))))))))))))) := hK.reo
     refine cl call10 rfl (eqWorld_ot hK hTg hgg hWw) ?_
     rintro _ w ⟨rfl, hK⟩
     replace hK : K _ _ _ ((q8, row (wc Wg) 31) :: (b7, row (wc Wx) 31) :: (q6, row (wc Ww) 31) :: (b3, row (ec kd a b c) 51) :: (b2, row (wc W) 49) :: (xR1 ++ (flat (uso ox1) ++ (xL1 ++ (xI1 ++ (xT1 ++ (xS1 ++ (gR ++ (flat (uso og) ++ (gL ++ (gI ++ (gT ++ (gS ++ (L)))))))))))))) := hK.reo
     refine gy rfl <| vl (ntB rfl) <| vl (pk rfl) <| nl <| thn <| ?_
     refine cdf rfl ?_
     refine sk <| thn <| sq <| rg <| ?_
     refine vl (aI rfl) <| nl <| thn <| sq <| rg <| vl (lsO hK Ty.a31 Ty.s31 0 rfl rfl rfl) <| vl (mI rfl) <| ?_
     replace hK : K _ _ _ (gR ++ (flat (uso og) ++ (gL ++ (gI ++ (gT ++ (gS ++ ((q8, row (wc Wg) 31) :: (b7, row (wc Wx) 31) :: (q6, row (wc Ww) 31) :: (b3, row (ec kd a b c) 51) :: (b2, row (wc W) 49) :: (xR1 ++ (flat (uso ox1) ++ (xL1 ++ (xI1 ++ (xT1 ++ (xS1 ++ (L)))))))))))))) := hK.reo
     refine cl call15 rfl (markWorld_c hK hTg om om) ?_
     rintro _ w ⟨rfl, wd2, og1, gR1, gL1, gI1, gT1, gS1, hTg1, hgg1, hmk1, hsz1, hK⟩
     replace hK : K _ _ _ ((q8, row (wc Wg) 31) :: (b7, row (wc Wx) 31) :: (q6, row (wc Ww) 31) :: (b3, row (ec kd a b c) 51) :: (b2, row (wc W) 49) :: (xR1 ++ (flat (uso ox1) ++ (xL1 ++ (xI1 ++ (xT1 ++ (xS1 ++ (gR1 ++ (flat (uso og1) ++ (gL1 ++ (gI1 ++ (gT1 ++ (gS1 ++ (L)))))))))))))) := hK.reo
     refine vl (aI rfl) <| nl <| thn <| sq <| rg <| vl (aI rfl) <| nl <| thn <| sq <| rg <| vl (lsO hK Ty.a31 Ty.s31 0 rfl rfl rfl) <| vl (mI rfl) <| ?_
     replace hK : K _ _ _ (gR1 ++ (flat (uso og1) ++ (gL1 ++ (gI1 ++ (gT1 ++ (gS1 ++ ((q8, row (wc Wg) 31) :: (b7, row (wc Wx) 31) :: (q6, row (wc Ww) 31) :: (b3, row (ec kd a b c) 51) :: (b2, row (wc W) 49) :: (xR1 ++ (flat (uso ox1) ++ (xL1 ++ (xI1 ++ (xT1 ++ (xS1 ++ (L)))))))))))))) := hK.reo
     refine cl call16 rfl (heldWorld_o hK hTg1 hgg1 hmk1 om om) ?_
     rintro _ w ⟨rfl, hK⟩
     replace hK : K _ _ _ ((q8, row (wc Wg) 31) :: (b7, row (wc Wx) 31) :: (q6, row (wc Ww) 31) :: (b3, row (ec kd a b c) 51) :: (b2, row (wc W) 49) :: (xR1 ++ (flat (uso ox1) ++ (xL1 ++ (xI1 ++ (xT1 ++ (xS1 ++ (gR1 ++ (flat (uso og1) ++ (gL1 ++ (gI1 ++ (gT1 ++ (gS1 ++ (L)))))))))))))) := hK.reo
     refine vl (aI rfl) <| nl <| thn <| sq <| sq <| rg <| vl (mI rfl) <| vl (lt rfl rfl) <| nl <| thn <| ?_
     refine cdP rfl (fun e7 => ?_) fun e7 => ?_
     ·have _ := trivial
      omega
     ·refine sk <| thn <| sq <| sq <| rg <| ?_
      refine vl (mI rfl) <| vl (mI rfl) <| vl (ne rfl rfl) <| nl <| thn <| ?_
      refine cdP rfl (fun e8 => ?_) fun e8 => ?_
      ·have _ := trivial
       omega
      ·skip
       refine sk <| thn <| sq <| ?_
       refine ct (σ := Nat × View × Wv × List Rn) (fun s => [(6, .pointer (some ⟨q6, 0, none⟩)), (8, .pointer (some ⟨q8, 0, none⟩)), (10, .int .i64 (1 + (wsz (wdF wd kd a b c) (toRs og) : Int))), (12, .pointer (some ⟨s.1, 0, none⟩))]) (fun s w => VLe G7 s.2.1 ∧ WdS s.2.1 lc s.2.2.1 (wdF wd kd a b c) s.2.2.2 ∧ K e w s.2.1 ((s.1, row (wc s.2.2.1) 31) :: (q8, row (wc Wg) 31) :: (b7, row (wc Wx) 31) :: (q6, row (wc Ww) 31) :: (b3, row (ec kd a b c) 51) :: (b2, row (wc W) 49) :: (xR1 ++ (flat (uso ox1) ++ (xL1 ++ (xI1 ++ (xT1 ++ (xS1 ++ (gR1 ++ (flat (uso og1) ++ (gL1 ++ (gI1 ++ (gT1 ++ (gS1 ++ (L))))))))))))))) ?_ ?_
       ·skip
        refine rgs (fun w => K e w G7 ((b3, row (ec kd a b c) 51) :: (b2, row (wc W) 49) :: L)) (fun w => K _ w _ _) [U,U,U,U,U,U,U] 7 Ty.mixed rfl rfl (hK.drawn _) ?_
        intro w hK
        have hS : (fun w => K e w G7 ((b3, row (ec kd a b c) 51) :: (b2, row (wc W) 49) :: L)) w := K.sl hK
        refine xt (i := 0) rfl kr rfl rfl (fun w hK => (lsO hK Ty.a49 Ty.s49 1 rfl rfl rfl)) hS <| xt (i := 2) rfl kr rfl rfl (fun w hK => (lsO hK Ty.a51 Ty.s51 0 rfl rfl rfl)) hS <| ?_
        refine xe2 (i := 1) (j := 5) kr rfl rfl rfl rfl ?_ ?_
        ·skip
         refine cl call19 rfl (toWorld_v hK (hW.mono hGa) hl) ?_
         rintro _ w ⟨G8, Wy, qy, rfl, hG8, hWy, hK⟩
         refine xnk ((K.vle (K.sl hK) hG8)) fun hS => ?_
         refine xe2 (i := 3) (j := 5) kr rfl rfl rfl rfl ?_ ?_
         ·skip
          refine cl call20 rfl (toEvent_c hK) ?_
          rintro _ w ⟨rfl, hK⟩
          refine xnk ((K.vle (K.sl hK) hG8)) fun hS => ?_
          refine xe2 (i := 4) (j := 5) kr rfl rfl rfl rfl ?_ ?_
          ·skip
           refine cl call21 rfl (implWorldDoF_c (hE.mono (hGa.trans hG8)) hK hWy hzl) ?_
           rintro _ w ⟨G9, Wh, qh, hG9, rfl, hWh, _, hK⟩
           refine xnk ((K.vle (K.sl hK) (hG8.trans hG9))) fun hS => ?_
           refine xe (i := 5) kr rfl rfl ?_
           refine al hK Ty.i31 rfl ?_
           intro b12 w hK
           refine xnk ((K.vle (K.sl hK) (hG8.trans hG9))) fun hS => ?_
           refine xe (i := 6) kr rfl rfl ?_
           refine soS hK Ty.i31 0 rfl rfl rfl rfl (WdS.one hWh) rfl ?_
           intro w hK
           refine xnk ((K.vle (K.sl hK) (hG8.trans hG9))) fun hS => ?_
           refine xd kr <| ctn <| ?_
           replace hK : K e w G9 ((b12, row (wc Wh) 31) :: (q8, row (wc Wg) 31) :: (b7, row (wc Wx) 31) :: (q6, row (wc Ww) 31) :: (b3, row (ec kd a b c) 51) :: (b2, row (wc W) 49) :: (xR1 ++ (flat (uso ox1) ++ (xL1 ++ (xI1 ++ (xT1 ++ (xS1 ++ (gR1 ++ (flat (uso og1) ++ (gL1 ++ (gI1 ++ (gT1 ++ (gS1 ++ (L)))))))))))))) := hK
           exact ⟨(b12, G9, Wh, qh), ⟨rfl, rfl, rfl, rfl, trivial⟩, hG8.trans hG9, hWh, hK⟩
          ·refine al hK Ty.i31 rfl ?_
           intro b12 w hK
           refine xnk ((K.vle (K.sl hK) hG8)) fun hS => ?_
           refine xe (i := 4) kr rfl rfl ?_
           refine cl call21 rfl (implWorldDoF_c (hE.mono (hGa.trans hG8)) hK hWy hzl) ?_
           rintro _ w ⟨G9, Wh, qh, hG9, rfl, hWh, _, hK⟩
           refine xnk ((K.vle (K.sl hK) (hG8.trans hG9))) fun hS => ?_
           refine xe (i := 6) kr rfl rfl ?_
           refine soS hK Ty.i31 0 rfl rfl rfl rfl (WdS.one hWh) rfl ?_
           intro w hK
           refine xnk ((K.vle (K.sl hK) (hG8.trans hG9))) fun hS => ?_
           refine xd kr <| ctn <| ?_
           replace hK : K e w G9 ((b12, row (wc Wh) 31) :: (q8, row (wc Wg) 31) :: (b7, row (wc Wx) 31) :: (q6, row (wc Ww) 31) :: (b3, row (ec kd a b c) 51) :: (b2, row (wc W) 49) :: (xR1 ++ (flat (uso ox1) ++ (xL1 ++ (xI1 ++ (xT1 ++ (xS1 ++ (gR1 ++ (flat (uso og1) ++ (gL1 ++ (gI1 ++ (gT1 ++ (gS1 ++ (L)))))))))))))) := hK
           exact ⟨(b12, G9, Wh, qh), ⟨rfl, rfl, rfl, rfl, trivial⟩, hG8.trans hG9, hWh, hK⟩
         ·refine al hK Ty.i31 rfl ?_
          intro b12 w hK
          refine xnk ((K.vle (K.sl hK) hG8)) fun hS => ?_
          refine xe (i := 3) kr rfl rfl ?_
          refine cl call20 rfl (toEvent_c hK) ?_
          rintro _ w ⟨rfl, hK⟩
          refine xnk ((K.vle (K.sl hK) hG8)) fun hS => ?_
          refine xe (i := 4) kr rfl rfl ?_
          refine cl call21 rfl (implWorldDoF_c (hE.mono (hGa.trans hG8)) hK hWy hzl) ?_
          rintro _ w ⟨G9, Wh, qh, hG9, rfl, hWh, _, hK⟩
          refine xnk ((K.vle (K.sl hK) (hG8.trans hG9))) fun hS => ?_
          refine xe (i := 6) kr rfl rfl ?_
          refine soS hK Ty.i31 0 rfl rfl rfl rfl (WdS.one hWh) rfl ?_
          intro w hK
          refine xnk ((K.vle (K.sl hK) (hG8.trans hG9))) fun hS => ?_
          refine xd kr <| ctn <| ?_
          replace hK : K e w G9 ((b12, row (wc Wh) 31) :: (q8, row (wc Wg) 31) :: (b7, row (wc Wx) 31) :: (q6, row (wc Ww) 31) :: (b3, row (ec kd a b c) 51) :: (b2, row (wc W) 49) :: (xR1 ++ (flat (uso ox1) ++ (xL1 ++ (xI1 ++ (xT1 ++ (xS1 ++ (gR1 ++ (flat (uso og1) ++ (gL1 ++ (gI1 ++ (gT1 ++ (gS1 ++ (L)))))))))))))) := hK
          exact ⟨(b12, G9, Wh, qh), ⟨rfl, rfl, rfl, rfl, trivial⟩, hG8.trans hG9, hWh, hK⟩
        ·refine al hK Ty.i31 rfl ?_
         intro b12 w hK
         refine xnk (K.sl hK) fun hS => ?_
         refine xe (i := 1) kr rfl rfl ?_
         refine cl call19 rfl (toWorld_v hK (hW.mono hGa) hl) ?_
         rintro _ w ⟨G8, Wy, qy, rfl, hG8, hWy, hK⟩
         refine xnk ((K.vle (K.sl hK) hG8)) fun hS => ?_
         refine xe (i := 3) kr rfl rfl ?_
         refine cl call20 rfl (toEvent_c hK) ?_
         rintro _ w ⟨rfl, hK⟩
         refine xnk ((K.vle (K.sl hK) hG8)) fun hS => ?_
         refine xe (i := 4) kr rfl rfl ?_
         refine cl call21 rfl (implWorldDoF_c (hE.mono (hGa.trans hG8)) hK hWy hzl) ?_
         rintro _ w ⟨G9, Wh, qh, hG9, rfl, hWh, _, hK⟩
         refine xnk ((K.vle (K.sl hK) (hG8.trans hG9))) fun hS => ?_
         refine xe (i := 6) kr rfl rfl ?_
         refine soS hK Ty.i31 0 rfl rfl rfl rfl (WdS.one hWh) rfl ?_
         intro w hK
         refine xnk ((K.vle (K.sl hK) (hG8.trans hG9))) fun hS => ?_
         refine xd kr <| ctn <| ?_
         replace hK : K e w G9 ((b12, row (wc Wh) 31) :: (q8, row (wc Wg) 31) :: (b7, row (wc Wx) 31) :: (q6, row (wc Ww) 31) :: (b3, row (ec kd a b c) 51) :: (b2, row (wc W) 49) :: (xR1 ++ (flat (uso ox1) ++ (xL1 ++ (xI1 ++ (xT1 ++ (xS1 ++ (gR1 ++ (flat (uso og1) ++ (gL1 ++ (gI1 ++ (gT1 ++ (gS1 ++ (L)))))))))))))) := hK
         exact ⟨(b12, G9, Wh, qh), ⟨rfl, rfl, rfl, rfl, trivial⟩, hG8.trans hG9, hWh, hK⟩
       ·rintro ⟨q12, G9, Wh, qh⟩ g w ⟨hG9, hWh, hK⟩
        simp only at hG9 hWh hK
        refine thn <| sq <| sq <| rg <| ?_
        refine vl (lsO hK Ty.a31 Ty.s31 0 rfl rfl rfl) <| vl (lsO hK Ty.a31 Ty.s31 3 rfl rfl rfl) <| ?_
        refine cl call10 rfl (eqWorld_t hK hWh (hWw.mono hG9)) ?_
        rintro _ w ⟨rfl, hK⟩
        refine vl (ntB rfl) <| nl <| thn <| ?_
        refine cdf rfl ?_
        refine sk <| thn <| sq <| rg <| ?_
        refine vl (aI rfl) <| nl <| thn <| sq <| rg <| vl (lsO hK Ty.a31 Ty.s31 1 rfl rfl rfl) <| vl (mI rfl) <| ?_
        replace hK : K _ _ _ (gR1 ++ (flat (uso og1) ++ (gL1 ++ (gI1 ++ (gT1 ++ (gS1 ++ ((q12, row (wc Wh) 31) :: (q8, row (wc Wg) 31) :: (b7, row (wc Wx) 31) :: (q6, row (wc Ww) 31) :: (b3, row (ec kd a b c) 51) :: (b2, row (wc W) 49) :: (xR1 ++ (flat (uso ox1) ++ (xL1 ++ (xI1 ++ (xT1 ++ (xS1 ++ (L)))))))))))))) := hK.reo
        refine cl call16 rfl (heldWorld_o hK hTg1 hgg1 hmk1 om om) ?_
        rintro _ w ⟨rfl, hK⟩
        replace hK : K _ _ _ ((q12, row (wc Wh) 31) :: (q8, row (wc Wg) 31) :: (b7, row (wc Wx) 31) :: (q6, row (wc Ww) 31) :: (b3, row (ec kd a b c) 51) :: (b2, row (wc W) 49) :: (xR1 ++ (flat (uso ox1) ++ (xL1 ++ (xI1 ++ (xT1 ++ (xS1 ++ (gR1 ++ (flat (uso og1) ++ (gL1 ++ (gI1 ++ (gT1 ++ (gS1 ++ (L)))))))))))))) := hK.reo
        refine vl (aI rfl) <| nl <| thn <| sq <| sq <| rg <| vl (mI rfl) <| vl (lt rfl rfl) <| nl <| thn <| ?_
        refine cdP rfl (fun e10 => ?_) fun e10 => ?_
        ·have _ := trivial
         omega
        ·refine sk <| thn <| sq <| sq <| rg <| ?_
         refine vl (mI rfl) <| vl (mI rfl) <| vl (ne rfl rfl) <| nl <| thn <| ?_
         refine cdP rfl (fun e11 => ?_) fun e11 => ?_
         ·have _ := trivial
          omega
         ·refine sk <| thn <| sq <| rg <| ?_
          refine vl (aB rfl) <| nl <| thn <| rt <| p1r (a := .bool _) rfl <| ?_
          exact ⟨rfl, _, _, hK, hGa.trans hG9⟩
end
end Go.Proofs.YtmgggljicpmndaaGreatDoor
