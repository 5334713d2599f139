/- The law on quiet periods of a world, exactly. Conditions: those that each row states. -/
import Derived.Test.YtmgggljicpmndaaGreatEr
import Derived.Test.YtmgggljicpmndaaGreatXk2
import Derived.Test.YtmgggljicpmndaaGreatXs1
import Derived.Test.YtmgggljicpmndaaGreatCi
namespace Go.Proofs.YtmgggljicpmndaaGreat
open Go Go.Ro Tryz
section
variable {e w : World} {G : View} {L : Own} {v u : Value} {rs qs : List Rn} {W W' : Wv} {wd wd' : Wd} {n m k : Int}
theorem calF_sz (hr : rgl rs = (calF wd).ring) : wsz (calF wd) rs ≤ 100000 := by
 by_cases h : WdOk wd
 ·rw [calF_yes h] at hr ⊢; exact wdok_sz (calW_ok h) hr
 ·rw [calF_no h] at hr ⊢; exact wdZ_sz hr
set_option maxHeartbeats 2000000 in
theorem FnExactWorldCalm_c (hK : K e w G L) (hW : WdS G lc W wd rs) : Ret prog 3 #[.agg (wc W).toArray] w (fun r w' => r = .bool true ∧ ∃ G' L', K e w' G' L' ∧ VLe G G') := by
 refine enter1 (args := [.agg (wc W).toArray]) func3 rfl rfl rfl rfl ?_
 refine sq <| rg <| ?_
 refine bx hK rfl rfl ?_
 intro b1 w hK
 refine vl (aB rfl) <| nl <| thn <| sq <| rg <| vl (aI rfl) <| nl <| thn <| sq <| rg <| vl (lsO hK Ty.a29 Ty.s29 0 rfl rfl rfl) <| vl (mI rfl) <| ?_
 refine cl call4 rfl (szWorld_c hK hW om om) ?_
 rintro _ w ⟨⟨m, rfl, hl⟩, hK⟩
 refine vl (aI rfl) <| nl <| thn <| sq <| sq <| rg <| vl (mI rfl) <| vl (lt rfl rfl) <| nl <| thn <| ?_
 refine cdP rfl (fun hneg => ?_) fun hneg => ?_
 ·refine sq <| rg <| ?_
  refine vl (aB rfl) <| nl <| thn <| rt <| thr <| p1r (a := .bool _) rfl <| ?_
  exact ⟨rfl, _, _, hK, VLe.refl _⟩
 ·have hl := hl (by omega)
  have hzl : wd.items.length ≤ 1048576 := hl.2.2.2.1
  refine sk <| thn <| sq <| rg <| ?_
  refine vl (lsO hK Ty.a29 Ty.s29 0 rfl rfl rfl) <| ?_
  refine cl call6 rfl (toWorld_v hK hW hl) ?_
  rintro _ w ⟨G1, W1, q1, rfl, hG1, hW1, hK⟩
  refine cl call5 rfl (specWorldCalm_c hK hW1 hzl) ?_
  rintro _ w ⟨G2, Ww, qw, hG2, rfl, hWw, hK⟩
  have hG12 := hG1.trans hG2
  refine al hK Ty.i36 rfl ?_
  intro b4 w hK
  refine soS hK Ty.i36 0 rfl rfl rfl rfl (WdS.one hWw) rfl ?_
  intro w hK
  refine nl <| thn <| sq <| rg <| vl (lsO hK Ty.a29 Ty.s29 1 rfl rfl rfl) <| ?_
  replace hK : K e w G2 ((b4, row (wc Ww) 36) :: (b1, row (wc W) 29) :: L) := hK
  refine cl call6 rfl (toWorldF_v hK (hW.mono hG12) hl) ?_
  rintro _ w ⟨G3, Wx, qx, rfl, hG3, hWx, hFx, hK⟩
  refine al hK Ty.i36 rfl ?_
  intro b5 w hK
  refine soS hK Ty.i36 0 rfl rfl rfl rfl (WdS.one hWx) rfl ?_
  intro w hK
  refine nl <| thn <| sq <| rg <| vl (lsO hK Ty.a36 Ty.s36 0 rfl rfl rfl) <| ?_
  replace hK : K e w G3 ((b5, row (wc Wx) 36) :: (b4, row (wc Ww) 36) :: (b1, row (wc W) 29) :: L) := hK
  refine cl call7 rfl (implWorldCalmF_c hK hWx hzl) ?_
  rintro _ w ⟨G4, Wg, qg, hG4, rfl, hWg, hFg, hK⟩
  refine al hK Ty.i36 rfl ?_
  intro b6 w hK
  refine soS hK Ty.i36 0 rfl rfl rfl rfl (WdS.one hWg) rfl ?_
  intro w hK
  refine nl <| thn <| sq <| sq <| rg <| vl (lsO hK Ty.a36 Ty.s36 0 rfl rfl rfl) <| vl (lsO hK Ty.a36 Ty.s36 2 rfl rfl rfl) <| ?_
  replace hK : K e w G4 ((b6, row (wc Wg) 36) :: (b5, row (wc Wx) 36) :: (b4, row (wc Ww) 36) :: (b1, row (wc W) 29) :: L) := hK
  have htk := hFg.take hK hG4
  obtain ⟨G5, og, gR, gL, gI, gT, gS, hG5, hog, hTg, hK⟩ := htk
  subst hog
  have htx := (hFx.mono hG5).take hK (hG3.trans hG5)
  obtain ⟨G6, ox, xR, xL, xI, xT, xS, hG6, hox, hTx, hK⟩ := htx
  subst hox
  have hgg : Wg.now = (calF wd).now ∧ rgl (toRs og) = (calF wd).ring ∧ Wg.next = (calF wd).scan.1 := ⟨hWg.now, hWg.rg, hWg.next⟩
  have hgx : Wx.now = wd.now ∧ rgl (toRs ox) = wd.ring ∧ Wx.next = wd.scan.1 := ⟨hWx.now, hWx.rg, hWx.next⟩
  have hsg := calF_sz hgg.2.1
  have hsx := wdL_sz hl hgx.2.1
  have hGa := hG12.trans hG6
  replace hWw := hWw.mono hG6
  clear hFg hFx hWg hWx hG3 hG4 hG5
  replace hK : K _ _ _ (gR ++ (flat (uso og) ++ (gL ++ (gI ++ (gT ++ (gS ++ ((b6, row (wc Wg) 36) :: (b5, row (wc Wx) 36) :: (b4, row (wc Ww) 36) :: (b1, row (wc W) 29) :: (xR ++ (flat (uso ox) ++ (xL ++ (xI ++ (xT ++ (xS ++ (L)))))))))))))) := hK.reo
  refine cl call8 rfl (eqWorld_ot hK hTg hgg hWw) ?_
  rintro _ w ⟨rfl, hK⟩
  replace hK : K _ _ _ ((b6, row (wc Wg) 36) :: (b5, row (wc Wx) 36) :: (b4, row (wc Ww) 36) :: (b1, row (wc W) 29) :: (xR ++ (flat (uso ox) ++ (xL ++ (xI ++ (xT ++ (xS ++ (gR ++ (flat (uso og) ++ (gL ++ (gI ++ (gT ++ (gS ++ (L)))))))))))))) := hK.reo
  refine vl (ntB rfl) <| nl <| thn <| ?_
  refine cdf rfl ?_
  refine sk <| thn <| sq <| sq <| ?_
  refine rgs (fun w => K e w G6 ((b5, row (wc Wx) 36) :: (b1, row (wc W) 29) :: L)) (fun w => K _ w _ _) [U,U,U,U,U] 5 Ty.mixed rfl rfl (hK.drawn _) ?_
  intro w hK
  have hS : (fun w => K e w G6 ((b5, row (wc Wx) 36) :: (b1, row (wc W) 29) :: L)) w := K.sl hK
  refine xt (i := 0) rfl kr rfl rfl (fun w hK => (lsO hK Ty.a36 Ty.s36 0 rfl rfl rfl)) hS <| xt (i := 1) rfl kr rfl rfl (fun w hK => (lsO hK Ty.a29 Ty.s29 1 rfl rfl rfl)) hS <| ?_
  refine xe (i := 2) kr rfl rfl ?_
  refine cl call6 rfl (toWorld_v hK (hW.mono hGa) hl) ?_
  rintro _ w ⟨G7, Wz, qz, rfl, hG7, hWz, hK⟩
  refine xnk ((K.vle (K.sl hK) hG7)) fun hS => ?_
  refine xe (i := 3) kr rfl rfl ?_
  replace hK : K _ _ _ (xR ++ (flat (uso ox) ++ (xL ++ (xI ++ (xT ++ (xS ++ ((b6, row (wc Wg) 36) :: (b5, row (wc Wx) 36) :: (b4, row (wc Ww) 36) :: (b1, row (wc W) 29) :: (gR ++ (flat (uso og) ++ (gL ++ (gI ++ (gT ++ (gS ++ (L)))))))))))))) := hK.reo
  refine cl call8 rfl (eqWorld_ot hK hTx hgx hWz) ?_
  rintro _ w ⟨rfl, hK⟩
  replace hK : K _ _ _ ((b6, row (wc Wg) 36) :: (b5, row (wc Wx) 36) :: (b4, row (wc Ww) 36) :: (b1, row (wc W) 29) :: (xR ++ (flat (uso ox) ++ (xL ++ (xI ++ (xT ++ (xS ++ (gR ++ (flat (uso og) ++ (gL ++ (gI ++ (gT ++ (gS ++ (L)))))))))))))) := hK.reo
  refine xnk ((K.vle (K.sl hK) hG7)) fun hS => ?_
  refine xt (i := 4) rfl kr rfl rfl (fun w hK => (ntB rfl)) hS <| xd kr <| thn <| ?_
  refine cdf rfl ?_
  refine sk <| thn <| sq <| rg <| ?_
  refine vl (aI rfl) <| nl <| thn <| sq <| rg <| vl (lsO hK Ty.a36 Ty.s36 1 rfl rfl rfl) <| vl (mI rfl) <| ?_
  replace hGa := hGa.trans hG7
  replace hWw := hWw.mono hG7
  replace hK : K _ _ _ (xR ++ (flat (uso ox) ++ (xL ++ (xI ++ (xT ++ (xS ++ ((b6, row (wc Wg) 36) :: (b5, row (wc Wx) 36) :: (b4, row (wc Ww) 36) :: (b1, row (wc W) 29) :: (gR ++ (flat (uso og) ++ (gL ++ (gI ++ (gT ++ (gS ++ (L)))))))))))))) := hK.reo
  refine cl call9 rfl (markWorld_c hK hTx om om) ?_
  rintro _ w ⟨rfl, wd1, ox1, xR1, xL1, xI1, xT1, xS1, hTx1, _, _, _, hK⟩
  replace hK : K _ _ _ ((b6, row (wc Wg) 36) :: (b5, row (wc Wx) 36) :: (b4, row (wc Ww) 36) :: (b1, row (wc W) 29) :: (xR1 ++ (flat (uso ox1) ++ (xL1 ++ (xI1 ++ (xT1 ++ (xS1 ++ (gR ++ (flat (uso og) ++ (gL ++ (gI ++ (gT ++ (gS ++ (L)))))))))))))) := hK.reo
  refine vl (aI rfl) <| nl <| thn <| sq <| sq <| rg <| vl (mI rfl) <| vl (lt rfl rfl) <| vl (mB rfl) <| ?_
  refine splP (t := 37) rfl (fun e5 => ?_) fun e5 => ?_
  ·exfalso; omega
  ·have _ := trivial
   refine gy rfl <| vl (lsO hK Ty.a36 Ty.s36 0 rfl rfl rfl) <| gy rfl <| vl (lsO hK Ty.a36 Ty.s36 2 rfl rfl rfl) <| gy rfl <| ?_
   replace hK : K _ _ _ (gR ++ (flat (uso og) ++ (gL ++ (gI ++ (gT ++ (gS ++ ((b6, row (wc Wg) 36) :: (b5, row (wc Wx) 36) :: (b4, row (wc Ww) 36) :: (b1, row (wc W) 29) :: (xR1 ++ (flat (uso ox1) ++ (xL1 ++ (xI1 ++ (xT1 ++ (xS1 ++ (L)))))))))))))) := hK.reo
   refine cl call8 rfl (eqWorld_ot hK hTg hgg hWw) ?_
   rintro _ w ⟨rfl, hK⟩
   replace hK : K _ _ _ ((b6, row (wc Wg) 36) :: (b5, row (wc Wx) 36) :: (b4, row (wc Ww) 36) :: (b1, row (wc W) 29) :: (xR1 ++ (flat (uso ox1) ++ (xL1 ++ (xI1 ++ (xT1 ++ (xS1 ++ (gR ++ (flat (uso og) ++ (gL ++ (gI ++ (gT ++ (gS ++ (L)))))))))))))) := hK.reo
   refine gy rfl <| vl (ntB rfl) <| vl (pk rfl) <| nl <| thn <| ?_
   refine cdf rfl ?_
   refine sk <| thn <| sq <| rg <| ?_
   refine vl (aI rfl) <| nl <| thn <| sq <| rg <| vl (lsO hK Ty.a36 Ty.s36 0 rfl rfl rfl) <| vl (mI rfl) <| ?_
   replace hK : K _ _ _ (gR ++ (flat (uso og) ++ (gL ++ (gI ++ (gT ++ (gS ++ ((b6, row (wc Wg) 36) :: (b5, row (wc Wx) 36) :: (b4, row (wc Ww) 36) :: (b1, row (wc W) 29) :: (xR1 ++ (flat (uso ox1) ++ (xL1 ++ (xI1 ++ (xT1 ++ (xS1 ++ (L)))))))))))))) := hK.reo
   refine cl call9 rfl (markWorld_c hK hTg om om) ?_
   rintro _ w ⟨rfl, wd2, og1, gR1, gL1, gI1, gT1, gS1, hTg1, hgg1, hmk1, hsz1, hK⟩
   replace hK : K _ _ _ ((b6, row (wc Wg) 36) :: (b5, row (wc Wx) 36) :: (b4, row (wc Ww) 36) :: (b1, row (wc W) 29) :: (xR1 ++ (flat (uso ox1) ++ (xL1 ++ (xI1 ++ (xT1 ++ (xS1 ++ (gR1 ++ (flat (uso og1) ++ (gL1 ++ (gI1 ++ (gT1 ++ (gS1 ++ (L)))))))))))))) := hK.reo
   refine vl (aI rfl) <| nl <| thn <| sq <| rg <| vl (aI rfl) <| nl <| thn <| sq <| rg <| vl (lsO hK Ty.a36 Ty.s36 0 rfl rfl rfl) <| vl (mI rfl) <| ?_
   replace hK : K _ _ _ (gR1 ++ (flat (uso og1) ++ (gL1 ++ (gI1 ++ (gT1 ++ (gS1 ++ ((b6, row (wc Wg) 36) :: (b5, row (wc Wx) 36) :: (b4, row (wc Ww) 36) :: (b1, row (wc W) 29) :: (xR1 ++ (flat (uso ox1) ++ (xL1 ++ (xI1 ++ (xT1 ++ (xS1 ++ (L)))))))))))))) := hK.reo
   refine cl call10 rfl (heldWorld_o hK hTg1 hgg1 hmk1 om om) ?_
   rintro _ w ⟨rfl, hK⟩
   replace hK : K _ _ _ ((b6, row (wc Wg) 36) :: (b5, row (wc Wx) 36) :: (b4, row (wc Ww) 36) :: (b1, row (wc W) 29) :: (xR1 ++ (flat (uso ox1) ++ (xL1 ++ (xI1 ++ (xT1 ++ (xS1 ++ (gR1 ++ (flat (uso og1) ++ (gL1 ++ (gI1 ++ (gT1 ++ (gS1 ++ (L)))))))))))))) := hK.reo
   refine vl (aI rfl) <| nl <| thn <| sq <| sq <| rg <| vl (mI rfl) <| vl (lt rfl rfl) <| nl <| thn <| ?_
   refine cdP rfl (fun e7 => ?_) fun e7 => ?_
   ·have _ := trivial
    omega
   ·refine sk <| thn <| sq <| sq <| rg <| ?_
    refine vl (mI rfl) <| vl (mI rfl) <| vl (ne rfl rfl) <| nl <| thn <| ?_
    refine cdP rfl (fun e8 => ?_) fun e8 => ?_
    ·have _ := trivial
     omega
    ·refine sk <| thn <| sq <| rg <| ?_
     refine vl (lsO hK Ty.a29 Ty.s29 3 rfl rfl rfl) <| ?_
     refine cl call6 rfl (toWorld_v hK (hW.mono hGa) hl) ?_
     rintro _ w ⟨G8, Wy, qy, rfl, hG8, hWy, hK⟩
     refine cl call7 rfl (implWorldCalmF_c hK hWy hzl) ?_
     rintro _ w ⟨G9, Wh, qh, hG9, rfl, hWh, _, hK⟩
     refine al hK Ty.i36 rfl ?_
     intro b10 w hK
     refine soS hK Ty.i36 0 rfl rfl rfl rfl (WdS.one hWh) rfl ?_
     intro w hK
     refine nl <| thn <| sq <| sq <| rg <| vl (lsO hK Ty.a36 Ty.s36 0 rfl rfl rfl) <| vl (lsO hK Ty.a36 Ty.s36 3 rfl rfl rfl) <| ?_
     replace hK : K e w G9 ((b10, row (wc Wh) 36) :: (b6, row (wc Wg) 36) :: (b5, row (wc Wx) 36) :: (b4, row (wc Ww) 36) :: (b1, row (wc W) 29) :: (xR1 ++ (flat (uso ox1) ++ (xL1 ++ (xI1 ++ (xT1 ++ (xS1 ++ (gR1 ++ (flat (uso og1) ++ (gL1 ++ (gI1 ++ (gT1 ++ (gS1 ++ (L)))))))))))))) := hK
     refine cl call8 rfl (eqWorld_t hK hWh (hWw.mono (hG8.trans hG9))) ?_
     rintro _ w ⟨rfl, hK⟩
     refine vl (ntB rfl) <| nl <| thn <| ?_
     refine cdf rfl ?_
     refine sk <| thn <| sq <| rg <| ?_
     refine vl (aI rfl) <| nl <| thn <| sq <| rg <| vl (lsO hK Ty.a36 Ty.s36 1 rfl rfl rfl) <| vl (mI rfl) <| ?_
     replace hK : K _ _ _ (gR1 ++ (flat (uso og1) ++ (gL1 ++ (gI1 ++ (gT1 ++ (gS1 ++ ((b10, row (wc Wh) 36) :: (b6, row (wc Wg) 36) :: (b5, row (wc Wx) 36) :: (b4, row (wc Ww) 36) :: (b1, row (wc W) 29) :: (xR1 ++ (flat (uso ox1) ++ (xL1 ++ (xI1 ++ (xT1 ++ (xS1 ++ (L)))))))))))))) := hK.reo
     refine cl call10 rfl (heldWorld_o hK hTg1 hgg1 hmk1 om om) ?_
     rintro _ w ⟨rfl, hK⟩
     replace hK : K _ _ _ ((b10, row (wc Wh) 36) :: (b6, row (wc Wg) 36) :: (b5, row (wc Wx) 36) :: (b4, row (wc Ww) 36) :: (b1, row (wc W) 29) :: (xR1 ++ (flat (uso ox1) ++ (xL1 ++ (xI1 ++ (xT1 ++ (xS1 ++ (gR1 ++ (flat (uso og1) ++ (gL1 ++ (gI1 ++ (gT1 ++ (gS1 ++ (L)))))))))))))) := hK.reo
     refine vl (aI rfl) <| nl <| thn <| sq <| sq <| rg <| vl (mI rfl) <| vl (lt rfl rfl) <| nl <| thn <| ?_
     refine cdP rfl (fun e10 => ?_) fun e10 => ?_
     ·have _ := trivial
      omega
     ·refine sk <| thn <| sq <| sq <| rg <| ?_
      refine vl (mI rfl) <| vl (mI rfl) <| vl (ne rfl rfl) <| nl <| thn <| ?_
      refine cdP rfl (fun e11 => ?_) fun e11 => ?_
      ·have _ := trivial
       omega
      ·refine sk <| thn <| sq <| rg <| ?_
       refine vl (aB rfl) <| nl <| thn <| rt <| p1r (a := .bool _) rfl <| ?_
       exact ⟨rfl, _, _, hK, hGa.trans (hG8.trans hG9)⟩
end
end Go.Proofs.YtmgggljicpmndaaGreat
