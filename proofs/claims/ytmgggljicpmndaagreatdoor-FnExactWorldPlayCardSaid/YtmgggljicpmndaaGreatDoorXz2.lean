/- The law on plays of a world, exactly. Conditions: those that each row states. -/
import Derived.Test.YtmgggljicpmndaaGreatDoorXz1
namespace Go.Proofs.YtmgggljicpmndaaGreatDoor
open Go Go.Ro Tryz
section
variable {e w : World} {G G0 : View} {L A : Own} {v u : Value} {xs ys : List Int} {es fs : List Ev} {rs qs : List Rn} {W W' : Wv} {wd wd' : Wd} {n m k : Int} {a0 a1 : Addr}
theorem plF_sz {b : Bool} (h : wd = if b then plF xs es else wdZ) (hb : b = true ↔ PlOk xs es) (hr : rgl rs = wd.ring) : wsz wd rs ≤ 100000 := by
 cases b with
 | false =>
  simp only [Bool.false_eq_true, if_false] at h
  subst h
  exact wdZ_sz hr
 | true =>
  simp only [if_true] at h
  subst h
  have hp := (hb.1 rfl).1
  exact wdok_sz (plE_ok _ (newW_ok hp.1 hp.2)) hr
set_option maxHeartbeats 2000000 in
theorem FnExactWorldPlay_c (hK : K e w G L) (hE : ErrS 228 0 1 G a0 a1) (hv : IntS G v xs) (hu : EvS G u es) : Ret prog 3 #[v, u] w (fun r w' => r = .bool true ∧ ∃ G' L', K e w' G' L' ∧ VLe G G') := by
 have hle := hv.le
 refine enter1 (args := [v, u]) func3 rfl rfl rfl rfl ?_
 refine sq <| rg <| ?_
 refine vl (aB rfl) <| nl <| thn <| sq <| sq <| rg <| vl mv <| vl (ln underlying22 rfl hv.len) <| vl (gt rfl rfl) <| nl <| thn <| ?_
 refine cdP rfl (fun hbig => ?_) fun hbig => ?_
 ·refine sq <| rg <| ?_
  refine vl (aB rfl) <| nl <| thn <| rt <| thr <| p1r (a := .bool _) rfl <| ?_
  exact ⟨rfl, _, _, hK, VLe.refl _⟩
 ·have hl : xs.length ≤ 1048576 := by omega
  refine sk <| thn <| sq <| rg <| ?_
  refine vl (aI rfl) <| nl <| thn <| sq <| rg <| vl mv <| vl (mI rfl) <| ?_
  refine cl call5 rfl (szEventS_c hK hu om om) ?_
  rintro _ w ⟨⟨m, rfl, m1, m2, m3⟩, hK⟩
  refine vl (aI rfl) <| nl <| thn <| sq <| sq <| rg <| vl (mI rfl) <| vl (lt rfl rfl) <| nl <| thn <| ?_
  refine cdP rfl (fun hneg => ?_) fun hneg => ?_
  ·refine sq <| rg <| ?_
   refine vl (aB rfl) <| nl <| thn <| rt <| thr <| p1r (a := .bool _) rfl <| ?_
   exact ⟨rfl, _, _, hK, VLe.refl _⟩
  ·have hel : es.length ≤ 1048576 := by have := m3 (by omega); omega
   refine sk <| thn <| sq <| rg <| ?_
   refine vl mv <| ?_
   refine cl call7 rfl (toIntS_v hK hv hl) ?_
   rintro va w ⟨G1, hG1, hva, hK⟩
   refine vl mv <| ?_
   refine cl call8 rfl (toEventS_v hK (EF.mono hu hG1) hel) ?_
   rintro ea w ⟨G2, hG2, hea, hK⟩
   refine cl call6 rfl (specWorldPlay_c hK (hva.mono hG2) hea) ?_
   rintro _ w ⟨G3, Ww, wdw, rsw, bw, rfl, hG3, hWw, hbw, hwdw, hK⟩
   have hGa := (hG1.trans hG2).trans hG3
   replace hv := hv.mono hGa
   replace hu := EF.mono hu hGa
   refine vl mv <| vl (ext rfl rfl) <| vl (ext rfl rfl) <| ?_
   refine al hK Ty.i31 rfl ?_
   intro b6 w hK
   refine soS hK Ty.i31 0 rfl rfl rfl rfl (WdS.one hWw) rfl ?_
   intro w hK
   refine vl (aB rfl) <| nl <| thn <| sq <| rg <| vl mv <| ?_
   replace hK : K e w G3 ((b6, row (wc Ww) 31) :: L) := hK
   refine cl call7 rfl (toIntS_o hK hv hl) ?_
   rintro x0 w ⟨A0, ho0, hK⟩
   refine vl asg <| nl <| thn <| sq <| rg <| vl mv <| ?_
   refine cl call8 rfl (toEventS_c hK hu hel) ?_
   rintro x1 w ⟨A1, ho1, hK⟩
   refine vl asg <| nl <| thn <| sq <| rg <| vl mv <| vl mv <| ?_
   have hK0 : K e w G3 ((A1 ++ A0) ++ ((b6, row (wc Ww) 31) :: L)) := by simpa only [List.append_assoc] using hK
   have hs0 := OZ.ints (t := 3) hK0 (.inl ho0) (fun _ h => List.mem_append_right _ h)
   have hs1 := OZ.ef (t := 55) (c := evc) (fun _ => rfl) hK0 (.inl ho1) (fun _ h => List.mem_append_left _ h)
   refine cl call9 rfl (implWorldPlayF_c (hE.mono (hGa.trans hK0.addV_le)) hK0.pub hs0 hs1) ?_
   rintro _ w ⟨G4, Wg, wdg, rsg, bg, rfl, hG4, hWg, hFg, hbg, hwdg, hK⟩
   have hbb : bg = bw := Bool.eq_iff_iff.2 (hbg.trans hbw.symm)
   subst hbb
   have hww : wdw = wdg := by rw [hwdg, hwdw]
   subst hww
   have htk := hFg.take hK hG4
   obtain ⟨G5, og, gR, gL, gI, gT, gS, hG5, hog, hT, hK⟩ := htk
   subst hog
   have hbk := hK0.back hK hG5
   obtain ⟨G6, hG6, hK⟩ := hbk
   have hgg : Wg.now = wdw.now ∧ rgl (toRs og) = wdw.ring ∧ Wg.next = wdw.scan.1 := ⟨hWg.now, hWg.rg, hWg.next⟩
   have hsz := plF_sz hwdg hbg hgg.2.1
   replace hv := hv.mono hG6
   replace hu := EF.mono hu hG6
   replace hWw := hWw.mono hG6
   replace hGa := hGa.trans hG6
   have hone := WdS.one hWg
   clear hK0 hs0 hs1 hFg hWg hG4 hG5 hG6
   replace hK : K _ _ _ ((b6, row (wc Ww) 31) :: (A0 ++ (A1 ++ (gR ++ (flat (uso og) ++ (gL ++ (gI ++ (gT ++ (gS ++ (L)))))))))) := hK.reo
   refine vl mv <| vl (ext rfl rfl) <| vl (ext rfl rfl) <| ?_
   refine al hK Ty.i31 rfl ?_
   intro b10 w hK
   refine soS hK Ty.i31 0 rfl rfl rfl rfl hone rfl ?_
   intro w hK
   refine vl (aB rfl) <| nl <| thn <| sq <| sq <| rg <| vl (lsO hK Ty.a31 Ty.s31 0 rfl rfl rfl) <| vl (lsO hK Ty.a31 Ty.s31 1 rfl rfl rfl) <| ?_
   replace hK : K e w G6 ((b10, row (wc Wg) 31) :: (b6, row (wc Ww) 31) :: (A0 ++ (A1 ++ (gR ++ (flat (uso og) ++ (gL ++ (gI ++ (gT ++ (gS ++ (L)))))))))) := hK
   replace hK : K _ _ _ (gR ++ (flat (uso og) ++ (gL ++ (gI ++ (gT ++ (gS ++ ((b10, row (wc Wg) 31) :: (b6, row (wc Ww) 31) :: (A0 ++ (A1 ++ L))))))))) := hK.reo
   refine cl call10 rfl (eqWorld_ot hK hT hgg hWw) ?_
   rintro _ w ⟨rfl, hK⟩
   replace hK : K _ _ _ ((b10, row (wc Wg) 31) :: (b6, row (wc Ww) 31) :: (A0 ++ (A1 ++ (gR ++ (flat (uso og) ++ (gL ++ (gI ++ (gT ++ (gS ++ (L)))))))))) := hK.reo
   refine vl (ntB rfl) <| vl (mB rfl) <| gy rfl <| vl (mB rfl) <| gy rfl <| vl (mB rfl) <| gy rfl <| vl (neB underlying4 rfl rfl) <| vl (pk rfl) <| nl <| thn <| ?_
   refine cdB rfl (fun e1 => ?_) fun e1 => ?_
   ·have _ := trivial
    simp at e1
   ·refine sk <| thn <| sq <| sq <| rg <| ?_
    refine vl mv <| vl mv <| ?_
    refine cl call7 rfl (toIntS_v hK hv hl) ?_
    rintro ub w ⟨G7, hG7, hub, hK⟩
    replace hWw := hWw.mono hG7
    replace hv := hv.mono hG7
    replace hu := EF.mono hu hG7
    replace hGa := hGa.trans hG7
    replace hK : K _ _ _ (A0 ++ ((b10, row (wc Wg) 31) :: (b6, row (wc Ww) 31) :: (A1 ++ (gR ++ (flat (uso og) ++ (gL ++ (gI ++ (gT ++ (gS ++ (L)))))))))) := hK.reo
    refine cl call11 rfl (eqIntS_o hK ho0 hub) ?_
    rintro _ w ⟨rfl, hK⟩
    replace hK : K _ _ _ ((b10, row (wc Wg) 31) :: (b6, row (wc Ww) 31) :: (A0 ++ (A1 ++ (gR ++ (flat (uso og) ++ (gL ++ (gI ++ (gT ++ (gS ++ (L)))))))))) := hK.reo
    refine vl (nt rfl) <| nl <| thn <| ?_
    refine cdP rfl (fun e2 => ?_) fun e2 => ?_
    ·exact absurd rfl e2
    ·have _ := trivial
     refine sk <| thn <| sq <| sq <| rg <| ?_
     refine vl mv <| vl mv <| ?_
     refine cl call8 rfl (toEventS_v hK hu hel) ?_
     rintro eb w ⟨G8, hG8, heb, hK⟩
     replace hWw := hWw.mono hG8
     replace hv := hv.mono hG8
     replace hu := EF.mono hu hG8
     replace hGa := hGa.trans hG8
     replace hK : K _ _ _ (A1 ++ ((b10, row (wc Wg) 31) :: (b6, row (wc Ww) 31) :: (A0 ++ (gR ++ (flat (uso og) ++ (gL ++ (gI ++ (gT ++ (gS ++ (L)))))))))) := hK.reo
     refine cl call12 rfl (eqEventS_o hK ho1 heb) ?_
     rintro _ w ⟨rfl, hK⟩
     replace hK : K _ _ _ ((b10, row (wc Wg) 31) :: (b6, row (wc Ww) 31) :: (A0 ++ (A1 ++ (gR ++ (flat (uso og) ++ (gL ++ (gI ++ (gT ++ (gS ++ (L)))))))))) := hK.reo
     refine vl (nt rfl) <| nl <| thn <| ?_
     refine cdP rfl (fun e3 => ?_) fun e3 => ?_
     ·exact absurd rfl e3
     ·have _ := trivial
      refine sk <| thn <| sq <| rg <| ?_
      refine vl (aI rfl) <| nl <| thn <| sq <| rg <| vl mv <| vl (mI rfl) <| ?_
      replace hK : K _ _ _ (A0 ++ ((b10, row (wc Wg) 31) :: (b6, row (wc Ww) 31) :: (A1 ++ (gR ++ (flat (uso og) ++ (gL ++ (gI ++ (gT ++ (gS ++ (L)))))))))) := hK.reo
      refine cl call13 rfl (markIntS_c hK ho0 hl om om) ?_
      rintro _ w ⟨rfl, B0, _, hK⟩
      replace hK : K _ _ _ ((b10, row (wc Wg) 31) :: (b6, row (wc Ww) 31) :: (B0 ++ (A1 ++ (gR ++ (flat (uso og) ++ (gL ++ (gI ++ (gT ++ (gS ++ (L)))))))))) := hK.reo
      refine vl (aI rfl) <| nl <| thn <| sq <| rg <| vl mv <| vl (mI rfl) <| ?_
      replace hK : K _ _ _ (A1 ++ ((b10, row (wc Wg) 31) :: (b6, row (wc Ww) 31) :: (B0 ++ (gR ++ (flat (uso og) ++ (gL ++ (gI ++ (gT ++ (gS ++ (L)))))))))) := hK.reo
      refine cl call14 rfl (markEventS_c hK ho1 hel om om) ?_
      rintro _ w ⟨rfl, B1, hK⟩
      replace hK : K _ _ _ ((b10, row (wc Wg) 31) :: (b6, row (wc Ww) 31) :: (B0 ++ (B1 ++ (gR ++ (flat (uso og) ++ (gL ++ (gI ++ (gT ++ (gS ++ (L)))))))))) := hK.reo
      refine vl (aI rfl) <| nl <| thn <| sq <| sq <| rg <| vl (mI rfl) <| vl (lt rfl rfl) <| vl (mB rfl) <| ?_
      refine splP (t := 70) rfl (fun e5 => ?_) fun e5 => ?_
      ·exfalso; omega
      ·have _ := trivial
       refine gy rfl <| vl (lsO hK Ty.a31 Ty.s31 0 rfl rfl rfl) <| gy rfl <| vl (lsO hK Ty.a31 Ty.s31 1 rfl rfl rfl) <| gy rfl <| ?_
       replace hK : K _ _ _ (gR ++ (flat (uso og) ++ (gL ++ (gI ++ (gT ++ (gS ++ ((b10, row (wc Wg) 31) :: (b6, row (wc Ww) 31) :: (B0 ++ (B1 ++ L))))))))) := hK.reo
       refine cl call10 rfl (eqWorld_ot hK hT hgg hWw) ?_
       rintro _ w ⟨rfl, hK⟩
       replace hK : K _ _ _ ((b10, row (wc Wg) 31) :: (b6, row (wc Ww) 31) :: (B0 ++ (B1 ++ (gR ++ (flat (uso og) ++ (gL ++ (gI ++ (gT ++ (gS ++ (L)))))))))) := hK.reo
       refine gy rfl <| vl (ntB rfl) <| vl (pk rfl) <| vl (mB rfl) <| gy rfl <| vl (mB rfl) <| gy rfl <| vl (mB rfl) <| gy rfl <| vl (neB underlying4 rfl rfl) <| vl (pk rfl) <| nl <| thn <| ?_
       refine cdB rfl (fun e6 => ?_) fun e6 => ?_
       ·have _ := trivial
        simp at e6
       ·refine sk <| thn <| sq <| rg <| ?_
        refine vl (aI rfl) <| nl <| thn <| sq <| rg <| vl (lsO hK Ty.a31 Ty.s31 0 rfl rfl rfl) <| vl (mI rfl) <| ?_
        replace hK : K _ _ _ (gR ++ (flat (uso og) ++ (gL ++ (gI ++ (gT ++ (gS ++ ((b10, row (wc Wg) 31) :: (b6, row (wc Ww) 31) :: (B0 ++ (B1 ++ L))))))))) := hK.reo
        refine cl call15 rfl (markWorld_c hK hT om om) ?_
        rintro _ w ⟨rfl, wd1, og1, gR1, gL1, gI1, gT1, gS1, hT1, hg1, hm1, hs1, hK⟩
        replace hK : K _ _ _ ((b10, row (wc Wg) 31) :: (b6, row (wc Ww) 31) :: (B0 ++ (B1 ++ (gR1 ++ (flat (uso og1) ++ (gL1 ++ (gI1 ++ (gT1 ++ (gS1 ++ (L)))))))))) := hK.reo
        refine vl (aI rfl) <| nl <| thn <| sq <| rg <| vl (aI rfl) <| nl <| thn <| sq <| rg <| vl (lsO hK Ty.a31 Ty.s31 0 rfl rfl rfl) <| vl (mI rfl) <| ?_
        replace hK : K _ _ _ (gR1 ++ (flat (uso og1) ++ (gL1 ++ (gI1 ++ (gT1 ++ (gS1 ++ ((b10, row (wc Wg) 31) :: (b6, row (wc Ww) 31) :: (B0 ++ (B1 ++ L))))))))) := hK.reo
        refine cl call16 rfl (heldWorld_o hK hT1 hg1 hm1 om om) ?_
        rintro _ w ⟨rfl, hK⟩
        replace hK : K _ _ _ ((b10, row (wc Wg) 31) :: (b6, row (wc Ww) 31) :: (B0 ++ (B1 ++ (gR1 ++ (flat (uso og1) ++ (gL1 ++ (gI1 ++ (gT1 ++ (gS1 ++ (L)))))))))) := hK.reo
        refine vl (aI rfl) <| nl <| thn <| sq <| sq <| rg <| vl (mI rfl) <| vl (lt rfl rfl) <| nl <| thn <| ?_
        refine cdP rfl (fun e7 => ?_) fun e7 => ?_
        ·have _ := trivial
         omega
        ·refine sk <| thn <| sq <| sq <| rg <| ?_
         refine vl (mI rfl) <| vl (mI rfl) <| vl (ne rfl rfl) <| nl <| thn <| ?_
         refine cdP rfl (fun e8 => ?_) fun e8 => ?_
         ·have _ := trivial
          omega
         ·refine sk <| thn <| sq <| rg <| ?_
          refine vl mv <| ?_
          refine cl call7 rfl (toIntS_v hK hv hl) ?_
          rintro vb w ⟨G9, hG9, hvb, hK⟩
          refine vl mv <| ?_
          refine cl call8 rfl (toEventS_v hK (EF.mono hu hG9) hel) ?_
          rintro ec2 w ⟨G10, hG10, hec, hK⟩
          refine cl call9 rfl (implWorldPlayF_c (hE.mono ((hGa.trans hG9).trans hG10)) hK (hvb.mono hG10) hec) ?_
          rintro _ w ⟨G11, Wh, wdh, rsh, bh, rfl, hG11, hWh, _, hbh, hwdh, hK⟩
          have hGb := (hG9.trans hG10).trans hG11
          replace hWw := hWw.mono hGb
          replace hGa := hGa.trans hGb
          have hbb2 : bh = bg := Bool.eq_iff_iff.2 (hbh.trans hbg.symm)
          subst hbb2
          have hww2 : wdh = wdw := by rw [hwdh, hwdg]
          subst hww2
          refine vl mv <| vl (ext rfl rfl) <| vl (ext rfl rfl) <| ?_
          refine al hK Ty.i31 rfl ?_
          intro b15 w hK
          refine soS hK Ty.i31 0 rfl rfl rfl rfl (WdS.one hWh) rfl ?_
          intro w hK
          refine vl (aB rfl) <| nl <| thn <| sq <| sq <| rg <| vl (lsO hK Ty.a31 Ty.s31 0 rfl rfl rfl) <| vl (lsO hK Ty.a31 Ty.s31 2 rfl rfl rfl) <| ?_
          replace hK : K e w G11 ((b15, row (wc Wh) 31) :: (b10, row (wc Wg) 31) :: (b6, row (wc Ww) 31) :: (B0 ++ (B1 ++ (gR1 ++ (flat (uso og1) ++ (gL1 ++ (gI1 ++ (gT1 ++ (gS1 ++ (L)))))))))) := hK
          refine cl call10 rfl (eqWorld_t hK hWh hWw) ?_
          rintro _ w ⟨rfl, hK⟩
          refine vl (ntB rfl) <| vl (mB rfl) <| gy rfl <| vl (mB rfl) <| gy rfl <| vl (mB rfl) <| gy rfl <| vl (neB underlying4 rfl rfl) <| vl (pk rfl) <| nl <| thn <| ?_
          refine cdB rfl (fun e9 => ?_) fun e9 => ?_
          ·have _ := trivial
           simp at e9
          ·refine sk <| thn <| sq <| rg <| ?_
           refine vl (aI rfl) <| nl <| thn <| sq <| rg <| vl (lsO hK Ty.a31 Ty.s31 1 rfl rfl rfl) <| vl (mI rfl) <| ?_
           replace hK : K _ _ _ (gR1 ++ (flat (uso og1) ++ (gL1 ++ (gI1 ++ (gT1 ++ (gS1 ++ ((b15, row (wc Wh) 31) :: (b10, row (wc Wg) 31) :: (b6, row (wc Ww) 31) :: (B0 ++ (B1 ++ L))))))))) := hK.reo
           refine cl call16 rfl (heldWorld_o hK hT1 hg1 hm1 om om) ?_
           rintro _ w ⟨rfl, hK⟩
           replace hK : K _ _ _ ((b15, row (wc Wh) 31) :: (b10, row (wc Wg) 31) :: (b6, row (wc Ww) 31) :: (B0 ++ (B1 ++ (gR1 ++ (flat (uso og1) ++ (gL1 ++ (gI1 ++ (gT1 ++ (gS1 ++ (L)))))))))) := hK.reo
           refine vl (aI rfl) <| nl <| thn <| sq <| sq <| rg <| vl (mI rfl) <| vl (lt rfl rfl) <| nl <| thn <| ?_
           refine cdP rfl (fun e10 => ?_) fun e10 => ?_
           ·have _ := trivial
            omega
           ·refine sk <| thn <| sq <| sq <| rg <| ?_
            refine vl (mI rfl) <| vl (mI rfl) <| vl (ne rfl rfl) <| nl <| thn <| ?_
            refine cdP rfl (fun e11 => ?_) fun e11 => ?_
            ·have _ := trivial
             omega
            ·refine sk <| thn <| sq <| rg <| ?_
             refine vl (aB rfl) <| nl <| thn <| rt <| p1r (a := .bool _) rfl <| ?_
             exact ⟨rfl, _, _, hK, hGa⟩
end
end Go.Proofs.YtmgggljicpmndaaGreatDoor
