/- The law on new worlds, exactly. Conditions: those that each row states. -/
import Derived.Test.YtbkfnnifkdgbkaaXm
import Derived.Test.YtbkfnnifkdgbkaaXn
namespace Go.Proofs.Ytbkfnnifkdgbkaa
open Go Go.Ro

section
variable {e w : World} {G : View} {L A AR AL AI AT AS : Own} {v u : Value} {xs ys : List Int} {rs qs : List Rn} {os : List Ron} {W W' : Wv} {wd wd' : Wd} {n m k : Int}

theorem eqWorld_t (hK : K e w G L) (hW : WdS G lc W wd rs) (hW' : WdS G lc W' wd qs) : Ret Try.prog 7 #[.agg (wc W).toArray, .agg (wc W').toArray] w (fun r w' => r = .bool true ∧ K e w' G L) :=
 (eqWorld_c hK hW hW').mono fun _ _ ⟨h1, h2⟩ => ⟨by rw [h1, dec_t rfl], h2⟩
theorem eqWorld_ot (hK : K e w G (AR ++ (flat (uso os) ++ (AL ++ (AI ++ (AT ++ (AS ++ L))))))) (h : WdT lc 55 53 61 3 W wd os AR AL AI AT AS) (hg : W.now = wd.now ∧ rgl (toRs os) = wd.ring ∧ W.next = wd.scan.1) (hW' : WdS G lc W' wd qs) :
  Ret Try.prog 7 #[.agg (wc W).toArray, .agg (wc W').toArray] w (fun r w' => r = .bool true ∧ K e w' G (AR ++ (flat (uso os) ++ (AL ++ (AI ++ (AT ++ (AS ++ L))))))) :=
 (eqWorld_o hK h hg hW').mono fun _ _ ⟨h1, h2⟩ => ⟨by rw [h1, dec_t rfl], h2⟩

set_option maxHeartbeats 1000000 in
theorem FnExactWorldNew_c (hK : K e w G L) (hv : IntS G v xs) : Ret Try.prog 3 #[v] w (fun r w' => r = .bool true ∧ ∃ G' L', K e w' G' L' ∧ VLe G G') := by
 have hle := hv.le
 refine enter1 (args := [v]) Try.func3 rfl rfl rfl rfl ?_
 refine sq <| rg <| ?_
 refine vl (aB rfl) <| nl <| thn <| sq <| sq <| rg <| vl mv <| vl (ln Try.underlying22 rfl hv.len) <| vl (gt rfl rfl) <| nl <| thn <| ?_
 refine cdP rfl (fun hbig => ?_) (fun hbig => ?_)
 ·refine sq <| rg <| ?_
  refine vl (aB rfl) <| nl <| thn <| rt <| thr <| p1r (a := .bool _) rfl <| ?_
  exact ⟨rfl, _, _, hK, VLe.refl _⟩
 ·have hl : xs.length ≤ 1048576 := by omega
  refine sk <| thn <| sq <| rg <| ?_
  refine vl mv <| ?_
  refine cl Try.call5 rfl (toIntS_v hK hv hl) ?_
  rintro va w ⟨G1, hG1, hva, hK⟩
  refine cl Try.call4 rfl (specWorldNew_c hK hva) ?_
  rintro _ w ⟨G2, Ww, wdw, rsw, bw, rfl, hG2, hWw, hbw, hwdw, hK⟩
  have hG12 := hG1.trans hG2
  replace hv := hv.mono hG12
  refine vl mv <| vl (ext rfl rfl) <| vl (ext rfl rfl) <| ?_
  refine al hK Ty.i29 rfl ?_
  intro b3 w hK
  refine soS hK Ty.i29 0 rfl rfl rfl rfl (WdS.one hWw) rfl ?_
  intro w hK
  refine vl (aB rfl) <| nl <| thn <| sq <| rg <| vl mv <| ?_
  replace hK : K e w G2 ((b3, row (wc Ww) 29) :: L) := hK
  refine cl Try.call5 rfl (toIntS_o hK hv hl) ?_
  rintro x0 w ⟨A0, ho0, hK⟩
  refine vl asg <| nl <| thn <| sq <| rg <| vl mv <| ?_
  have hK0 := hK
  have hsm := OZ.ints (t := 3) hK0 (.inl ho0) (fun _ h => h)
  refine cl Try.call6 rfl (implWorldNewF_c hK0.pub hsm) ?_
  rintro _ w ⟨G3, Wg, wdg, rsg, bg, rfl, hG3, hWg, hFg, hbg, hwdg, hK⟩
  have hbb : bg = bw := Bool.eq_iff_iff.2 (hbg.trans hbw.symm)
  subst hbb
  have hww : wdw = wdg := by rw [hwdg, hwdw]
  subst hww
  have htk := hFg.take hK hG3
  obtain ⟨G4, os, AR, AL, AI, AT, AS, hG4, hos, hT, hK⟩ := htk
  subst hos
  have hbk := hK0.back hK hG4
  obtain ⟨G5, hG5, hK⟩ := hbk
  have hgg : Wg.now = wdw.now ∧ rgl (toRs os) = wdw.ring ∧ Wg.next = wdw.scan.1 := ⟨hWg.now, hWg.rg, hWg.next⟩
  have hsz := newW_sz hwdg hgg.2.1 hl
  replace hv := hv.mono hG5
  replace hWw := hWw.mono hG5
  have hGa := hG12.trans hG5
  have hone := WdS.one hWg
  clear hK0 hsm hFg hWg hG3 hG4 hG12 hG1 hG2 hG5
  replace hK : K _ _ _ ((b3, row (wc Ww) 29) :: (A0 ++ (AR ++ (flat (uso os) ++ (AL ++ (AI ++ (AT ++ (AS ++ L)))))))) := hK.reo
  refine vl mv <| vl (ext rfl rfl) <| vl (ext rfl rfl) <| ?_
  refine al hK Ty.i29 rfl ?_
  intro b6 w hK
  refine soS hK Ty.i29 0 rfl rfl rfl rfl hone rfl ?_
  intro w hK
  refine vl (aB rfl) <| nl <| thn <| sq <| sq <| rg <| vl (lsO hK Ty.a29 Ty.s29 0 rfl rfl rfl) <| vl (lsO hK Ty.a29 Ty.s29 1 rfl rfl rfl) <| ?_
  replace hK : K e w G5 ((b6, row (wc Wg) 29) :: (b3, row (wc Ww) 29) :: (A0 ++ (AR ++ (flat (uso os) ++ (AL ++ (AI ++ (AT ++ (AS ++ L)))))))) := hK
  replace hK : K _ _ _ (AR ++ (flat (uso os) ++ (AL ++ (AI ++ (AT ++ (AS ++ ((b6, row (wc Wg) 29) :: (b3, row (wc Ww) 29) :: (A0 ++ L)))))))) := hK.reo
  refine cl Try.call7 rfl (eqWorld_ot hK hT hgg hWw) ?_
  rintro _ w ⟨rfl, hK⟩
  replace hK : K _ _ _ ((b6, row (wc Wg) 29) :: (b3, row (wc Ww) 29) :: (A0 ++ (AR ++ (flat (uso os) ++ (AL ++ (AI ++ (AT ++ (AS ++ L)))))))) := hK.reo
  refine vl (ntB rfl) <| vl (mB rfl) <| gy rfl <| vl (mB rfl) <| gy rfl <| vl (mB rfl) <| gy rfl <| vl (neB Try.underlying4 rfl rfl) <| vl (pk rfl) <| nl <| thn <| ?_
  refine cdB rfl (fun e1 => ?_) (fun e1 => ?_)
  ·have _ := trivial
   simp at e1
  ·refine sk <| thn <| sq <| sq <| rg <| ?_
   refine vl mv <| vl mv <| ?_
   refine cl Try.call5 rfl (toIntS_v hK hv hl) ?_
   rintro ub w ⟨G6, hG6, hub, hK⟩
   replace hWw := hWw.mono hG6
   replace hv := hv.mono hG6
   replace hGa := hGa.trans hG6
   replace hK : K _ _ _ (A0 ++ ((b6, row (wc Wg) 29) :: (b3, row (wc Ww) 29) :: (AR ++ (flat (uso os) ++ (AL ++ (AI ++ (AT ++ (AS ++ L)))))))) := hK.reo
   refine cl Try.call8 rfl (eqIntS_o hK ho0 hub) ?_
   rintro _ w ⟨rfl, hK⟩
   replace hK : K _ _ _ ((b6, row (wc Wg) 29) :: (b3, row (wc Ww) 29) :: (A0 ++ (AR ++ (flat (uso os) ++ (AL ++ (AI ++ (AT ++ (AS ++ L)))))))) := hK.reo
   refine vl (nt rfl) <| nl <| thn <| ?_
   refine cdP rfl (fun e3 => ?_) (fun e3 => ?_)
   ·exact absurd rfl e3
   ·have _ := trivial
    refine sk <| thn <| sq <| rg <| ?_
    refine vl (aI rfl) <| nl <| thn <| sq <| rg <| vl mv <| vl (mI rfl) <| ?_
    replace hK : K _ _ _ (A0 ++ ((b6, row (wc Wg) 29) :: (b3, row (wc Ww) 29) :: (AR ++ (flat (uso os) ++ (AL ++ (AI ++ (AT ++ (AS ++ L)))))))) := hK.reo
    refine cl Try.call9 rfl (markIntS_c hK ho0 hl om om) ?_
    rintro _ w ⟨rfl, A0', _, hK⟩
    replace hK : K _ _ _ ((b6, row (wc Wg) 29) :: (b3, row (wc Ww) 29) :: (A0' ++ (AR ++ (flat (uso os) ++ (AL ++ (AI ++ (AT ++ (AS ++ L)))))))) := hK.reo
    refine vl (aI rfl) <| nl <| thn <| sq <| sq <| rg <| vl (mI rfl) <| vl (lt rfl rfl) <| vl (mB rfl) <| ?_
    refine splP (t := 48) rfl (fun e5 => ?_) (fun e5 => ?_)
    ·exfalso; omega
    ·have _ := trivial
     refine gy rfl <| vl (lsO hK Ty.a29 Ty.s29 0 rfl rfl rfl) <| gy rfl <| vl (lsO hK Ty.a29 Ty.s29 1 rfl rfl rfl) <| gy rfl <| ?_
     replace hK : K _ _ _ (AR ++ (flat (uso os) ++ (AL ++ (AI ++ (AT ++ (AS ++ ((b6, row (wc Wg) 29) :: (b3, row (wc Ww) 29) :: (A0' ++ L)))))))) := hK.reo
     refine cl Try.call7 rfl (eqWorld_ot hK hT hgg hWw) ?_
     rintro _ w ⟨rfl, hK⟩
     replace hK : K _ _ _ ((b6, row (wc Wg) 29) :: (b3, row (wc Ww) 29) :: (A0' ++ (AR ++ (flat (uso os) ++ (AL ++ (AI ++ (AT ++ (AS ++ L)))))))) := hK.reo
     refine gy rfl <| vl (ntB rfl) <| vl (pk rfl) <| vl (mB rfl) <| gy rfl <| vl (mB rfl) <| gy rfl <| vl (mB rfl) <| gy rfl <| vl (neB Try.underlying4 rfl rfl) <| vl (pk rfl) <| nl <| thn <| ?_
     refine cdB rfl (fun e6 => ?_) (fun e6 => ?_)
     ·have _ := trivial
      simp at e6
     ·refine sk <| thn <| sq <| rg <| ?_
      refine vl (aI rfl) <| nl <| thn <| sq <| rg <| vl (lsO hK Ty.a29 Ty.s29 0 rfl rfl rfl) <| vl (mI rfl) <| ?_
      replace hK : K _ _ _ (AR ++ (flat (uso os) ++ (AL ++ (AI ++ (AT ++ (AS ++ ((b6, row (wc Wg) 29) :: (b3, row (wc Ww) 29) :: (A0' ++ L)))))))) := hK.reo
      refine cl Try.call10 rfl (markWorld_c hK hT om om) ?_
      rintro _ w ⟨rfl, wd1, os1, AR1, AL1, AI1, AT1, AS1, hT1, hg1, hm1, hs1, hK⟩
      replace hK : K _ _ _ ((b6, row (wc Wg) 29) :: (b3, row (wc Ww) 29) :: (A0' ++ (AR1 ++ (flat (uso os1) ++ (AL1 ++ (AI1 ++ (AT1 ++ (AS1 ++ L)))))))) := hK.reo
      refine vl (aI rfl) <| nl <| thn <| sq <| rg <| vl (aI rfl) <| nl <| thn <| sq <| rg <| vl (lsO hK Ty.a29 Ty.s29 0 rfl rfl rfl) <| vl (mI rfl) <| ?_
      replace hK : K _ _ _ (AR1 ++ (flat (uso os1) ++ (AL1 ++ (AI1 ++ (AT1 ++ (AS1 ++ ((b6, row (wc Wg) 29) :: (b3, row (wc Ww) 29) :: (A0' ++ L)))))))) := hK.reo
      refine cl Try.call11 rfl (heldWorld_o hK hT1 hg1 hm1 om om) ?_
      rintro _ w ⟨rfl, hK⟩
      replace hK : K _ _ _ ((b6, row (wc Wg) 29) :: (b3, row (wc Ww) 29) :: (A0' ++ (AR1 ++ (flat (uso os1) ++ (AL1 ++ (AI1 ++ (AT1 ++ (AS1 ++ L)))))))) := hK.reo
      refine vl (aI rfl) <| nl <| thn <| sq <| sq <| rg <| vl (mI rfl) <| vl (lt rfl rfl) <| nl <| thn <| ?_
      refine cdP rfl (fun e7 => ?_) (fun e7 => ?_)
      ·have _ := trivial
       omega
      ·refine sk <| thn <| sq <| sq <| rg <| ?_
       refine vl (mI rfl) <| vl (mI rfl) <| vl (ne rfl rfl) <| nl <| thn <| ?_
       refine cdP rfl (fun e8 => ?_) (fun e8 => ?_)
       ·have _ := trivial
        omega
       ·refine sk <| thn <| sq <| rg <| ?_
        refine vl mv <| ?_
        refine cl Try.call5 rfl (toIntS_v hK hv hl) ?_
        rintro vb w ⟨G7, hG7, hvb, hK⟩
        refine cl Try.call6 rfl (implWorldNew_c hK hvb) ?_
        rintro _ w ⟨G8, Wh, wdh, rsh, bh, rfl, hG8, hWh, hbh, hwdh, hK⟩
        replace hWw := hWw.mono (hG7.trans hG8)
        replace hGa := hGa.trans (hG7.trans hG8)
        have hbb2 : bh = bg := Bool.eq_iff_iff.2 (hbh.trans hbg.symm)
        subst hbb2
        have hww2 : wdh = wdw := by rw [hwdh, hwdg]
        subst hww2
        refine vl mv <| vl (ext rfl rfl) <| vl (ext rfl rfl) <| ?_
        refine al hK Ty.i29 rfl ?_
        intro b11 w hK
        refine soS hK Ty.i29 0 rfl rfl rfl rfl (WdS.one hWh) rfl ?_
        intro w hK
        refine vl (aB rfl) <| nl <| thn <| sq <| sq <| rg <| vl (lsO hK Ty.a29 Ty.s29 0 rfl rfl rfl) <| vl (lsO hK Ty.a29 Ty.s29 2 rfl rfl rfl) <| ?_
        replace hK : K e w G8 ((b11, row (wc Wh) 29) :: (b6, row (wc Wg) 29) :: (b3, row (wc Ww) 29) :: (A0' ++ (AR1 ++ (flat (uso os1) ++ (AL1 ++ (AI1 ++ (AT1 ++ (AS1 ++ L)))))))) := hK
        refine cl Try.call7 rfl (eqWorld_t hK hWh hWw) ?_
        rintro _ w ⟨rfl, hK⟩
        refine vl (ntB rfl) <| vl (mB rfl) <| gy rfl <| vl (mB rfl) <| gy rfl <| vl (mB rfl) <| gy rfl <| vl (neB Try.underlying4 rfl rfl) <| vl (pk rfl) <| nl <| thn <| ?_
        refine cdB rfl (fun e9 => ?_) (fun e9 => ?_)
        ·have _ := trivial
         simp at e9
        ·refine sk <| thn <| sq <| rg <| ?_
         refine vl (aI rfl) <| nl <| thn <| sq <| rg <| vl (lsO hK Ty.a29 Ty.s29 1 rfl rfl rfl) <| vl (mI rfl) <| ?_
         replace hK : K _ _ _ (AR1 ++ (flat (uso os1) ++ (AL1 ++ (AI1 ++ (AT1 ++ (AS1 ++ ((b11, row (wc Wh) 29) :: (b6, row (wc Wg) 29) :: (b3, row (wc Ww) 29) :: (A0' ++ L)))))))) := hK.reo
         refine cl Try.call11 rfl (heldWorld_o hK hT1 hg1 hm1 om om) ?_
         rintro _ w ⟨rfl, hK⟩
         replace hK : K _ _ _ ((b11, row (wc Wh) 29) :: (b6, row (wc Wg) 29) :: (b3, row (wc Ww) 29) :: (A0' ++ (AR1 ++ (flat (uso os1) ++ (AL1 ++ (AI1 ++ (AT1 ++ (AS1 ++ L)))))))) := hK.reo
         refine vl (aI rfl) <| nl <| thn <| sq <| sq <| rg <| vl (mI rfl) <| vl (lt rfl rfl) <| nl <| thn <| ?_
         refine cdP rfl (fun e10 => ?_) (fun e10 => ?_)
         ·have _ := trivial
          omega
         ·refine sk <| thn <| sq <| sq <| rg <| ?_
          refine vl (mI rfl) <| vl (mI rfl) <| vl (ne rfl rfl) <| nl <| thn <| ?_
          refine cdP rfl (fun e11 => ?_) (fun e11 => ?_)
          ·have _ := trivial
           omega
          ·refine sk <| thn <| sq <| rg <| ?_
           refine vl (aB rfl) <| nl <| thn <| rt <| p1r (a := .bool _) rfl <| ?_
           exact ⟨rfl, _, _, hK, hGa⟩
end
end Go.Proofs.Ytbkfnnifkdgbkaa
