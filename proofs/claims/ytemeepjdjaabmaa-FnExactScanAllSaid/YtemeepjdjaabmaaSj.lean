/- The law on exact whole scans: what it returns. Conditions: those that each row states. -/
import Derived.Test.YtemeepjdjaabmaaSe
import Derived.Test.YtemeepjdjaabmaaSf
namespace Go.Proofs.Ytemeepjdjaabmaa
open Go Go.Ro

section
variable {e w : World} {G : View} {L A : Own} {v u t t2 : Value} {xs ys ks ts us : List Int} {ls ms : List Ls} {n m k : Int}

theorem FnExactScanAll_c (hK : K e w G L) (hv : LeaS G v ls) (hu : IntS G u ks) : Ret Try.prog 9 #[v, u] w (fun r w' => r = .bool true ∧ ∃ G' L', K e w' G' L' ∧ VLe G G') := by
  have hule := hu.le
  refine enter1 (args := [v, u]) Try.func9 rfl rfl rfl rfl ?_
  refine sq <| rg <| ?_
  refine vl (asv (v := .bool _) rfl) <| nl <| thn <| sq <| sq <| rg <| vl mv <| vl (ln Try.underlying24 rfl hu.len) <| vl (gt rfl rfl) <| nl <| thn <| ?_
  refine cdP rfl (fun hbig => ?_) (fun hbig => ?_)
  · refine sq <| rg <| ?_
    refine vl (asv (v := .bool _) rfl) <| nl <| thn <| rt <| thr <| p1r (a := .bool _) rfl <| ?_
    exact ⟨rfl, _, _, hK, VLe.refl _⟩
  · have hlu : ks.length ≤ 1048576 := by omega
    refine sk <| thn <| sq <| rg <| ?_
    refine vl (asv (v := .int _ _) rfl) <| nl <| thn <| sq <| rg <| vl mv <| vl (mvv (v := .int _ _) rfl) <| ?_
    refine cl Try.call39 rfl (szLeaseS_c hK hv (by first | omega | (simp only; omega)) (by first | omega | (simp only; omega))) ?_
    rintro _ w ⟨⟨k, rfl, k1, k2, k3⟩, hK⟩
    refine vl (asv (v := .int _ _) rfl) <| nl <| thn <| sq <| sq <| rg <| vl (mvv (v := .int _ _) rfl) <| vl (lt rfl rfl) <| nl <| thn <| ?_
    refine cdP rfl (fun hneg => ?_) (fun hneg => ?_)
    · refine sq <| rg <| ?_
      refine vl (asv (v := .bool _) rfl) <| nl <| thn <| rt <| thr <| p1r (a := .bool _) rfl <| ?_
      exact ⟨rfl, _, _, hK, VLe.refl _⟩
    · have hl : ls.length ≤ 1048576 := by have := k3 (by omega); omega
      refine sk <| thn <| sq <| rg <| ?_
      refine vl mv <| ?_
      refine cl Try.call40 rfl (toLeaseS_v hK hv hl) ?_
      rintro va w ⟨G1, hG1, hva, hK⟩
      refine vl mv <| ?_
      refine cl Try.call41 rfl (toIntS_v hK (hu.mono hG1) hlu) ?_
      rintro ua w ⟨G2, hG2, hua, hK⟩
      refine cl Try.call37 rfl (specScanAll_c hK (hva.mono hG2) hua) ?_
      rintro _ w ⟨vw, Aw, zw, mw, rfl, hfw, how, hK⟩
      obtain ⟨G3, hG3, hw, hK⟩ := hK.pubO how
      refine vl mv <| vl (ext rfl rfl) <| vl (ext rfl rfl) <| vl asg <| vl (asv (v := .int _ _) rfl) <| nl <| thn <| sq <| rg <| vl mv <| ?_
      have hG := (hG1.trans hG2).trans hG3
      replace hv := hv.mono hG
      replace hu := hu.mono hG
      refine cl Try.call40 rfl (toLeaseS_c hK hv hl) ?_
      rintro x0 w ⟨A0, ho0, h0⟩
      refine vl asg <| nl <| thn <| sq <| rg <| vl mv <| ?_
      refine cl Try.call41 rfl (toIntS_o h0 hu hlu) ?_
      rintro x1 w ⟨A1, ho1, hK⟩
      replace h0 := K.mid hK
      have h1 := h0.pub
      have h2 := h1.pub
      refine vl asg <| nl <| thn <| sq <| rg <| vl mv <| vl mv <| ?_
      refine cl Try.call36 rfl (implScanAll_c h2 (LeaS.mono (OS.ef (c := lc) (sz := 3) (fun _ => rfl) ho0) h1.addV_le) ho1.ints) ?_
      rintro _ w ⟨vg, Ag, zg, mg, rfl, hfg, hog, hK⟩
      replace hK := h0.unpub' (h1.unpub' hK)
      obtain ⟨rfl, rfl⟩ := hfg.uniq hfw
      refine vl mv <| vl (ext rfl rfl) <| vl (ext rfl rfl) <| vl asg <| vl (asv (v := .int _ _) rfl) <| nl <| thn <| sq <| sq <| rg <| vl mv <| vl mv <| ?_
      replace hK : K _ _ _ (Ag ++ (A0 ++ (A1 ++ L))) := hK.cnt fun f => by simp only [List.map_append, List.map_cons, List.map_nil, List.sum_append, List.sum_cons, List.sum_nil]; omega
      refine cl Try.call42 rfl (eqIntS_o hK hog hw) ?_
      rintro _ w ⟨rfl, hK⟩
      refine vl (nt rfl) <| vl (mvv (v := .bool _) rfl) <| ?_
      refine splP (t := 47) rfl (fun e1 => ?_) (fun e1 => ?_)
      · exact absurd rfl e1
      · have _ := trivial
        refine gy rfl <| vl (mvv (v := .int _ _) rfl) <| gy rfl <| vl (mvv (v := .int _ _) rfl) <| gy rfl <| vl (ne rfl rfl) <| vl (pk rfl) <| nl <| thn <| ?_
        refine cdP rfl (fun e2 => ?_) (fun e2 => ?_)
        · exact absurd rfl e2
        · have _ := trivial
          refine sk <| thn <| sq <| sq <| rg <| ?_
          refine vl mv <| vl mv <| ?_
          refine cl Try.call40 rfl (toLeaseS_v hK hv hl) ?_
          rintro vb w ⟨G4, hG4, hvb, hK⟩
          replace hK : K _ _ _ (A0 ++ (Ag ++ (A1 ++ L))) := hK.cnt fun f => by simp only [List.map_append, List.map_cons, List.map_nil, List.sum_append, List.sum_cons, List.sum_nil]; omega
          replace hG := hG.trans hG4
          replace hu := hu.mono hG4
          replace hv := hv.mono hG4
          replace hw := hw.mono hG4
          refine cl Try.call43 rfl (eqLeaseS_o hK ho0 hvb) ?_
          rintro _ w ⟨rfl, hK⟩
          refine vl (nt rfl) <| nl <| thn <| ?_
          refine cdP rfl (fun e3 => ?_) (fun e3 => ?_)
          · exact absurd rfl e3
          · have _ := trivial
            refine sk <| thn <| sq <| sq <| rg <| ?_
            refine vl mv <| vl mv <| ?_
            refine cl Try.call41 rfl (toIntS_v hK hu hlu) ?_
            rintro ub w ⟨G5, hG5, hub, hK⟩
            replace hK : K _ _ _ (A1 ++ (A0 ++ (Ag ++ L))) := hK.cnt fun f => by simp only [List.map_append, List.map_cons, List.map_nil, List.sum_append, List.sum_cons, List.sum_nil]; omega
            replace hG := hG.trans hG5
            replace hu := hu.mono hG5
            replace hv := hv.mono hG5
            replace hw := hw.mono hG5
            refine cl Try.call42 rfl (eqIntS_o hK ho1 hub) ?_
            rintro _ w ⟨rfl, hK⟩
            refine vl (nt rfl) <| nl <| thn <| ?_
            refine cdP rfl (fun e4 => ?_) (fun e4 => ?_)
            · exact absurd rfl e4
            · have _ := trivial
              refine sk <| thn <| sq <| rg <| ?_
              refine vl (asv (v := .int _ _) rfl) <| nl <| thn <| sq <| rg <| vl mv <| vl (mvv (v := .int _ _) rfl) <| ?_
              replace hK := K.mid hK
              refine cl Try.call44 rfl (markLeaseS_c hK ho0 hl (by first | omega | (simp only; omega)) (by first | omega | (simp only; omega))) ?_
              rintro _ w ⟨rfl, A0', hK⟩
              refine vl (asv (v := .int _ _) rfl) <| nl <| thn <| sq <| rg <| vl mv <| vl (mvv (v := .int _ _) rfl) <| ?_
              replace hK := K.mid hK
              refine cl Try.call45 rfl (markIntS_c hK ho1 hlu (by first | omega | (simp only; omega)) (by first | omega | (simp only; omega))) ?_
              rintro _ w ⟨rfl, A1', _, hK⟩
              refine vl (asv (v := .int _ _) rfl) <| nl <| thn <| sq <| sq <| rg <| vl (mvv (v := .int _ _) rfl) <| vl (lt rfl rfl) <| vl (mvv (v := .bool _) rfl) <| ?_
              refine splP (t := 70) rfl (fun e5 => ?_) (fun e5 => ?_)
              · exfalso; omega
              · have _ := trivial
                refine gy rfl <| vl mv <| gy rfl <| vl mv <| gy rfl <| ?_
                replace hK : K _ _ _ (Ag ++ (A1' ++ (A0' ++ L))) := hK.cnt fun f => by simp only [List.map_append, List.map_cons, List.map_nil, List.sum_append, List.sum_cons, List.sum_nil]; omega
                refine cl Try.call42 rfl (eqIntS_o hK hog hw) ?_
                rintro _ w ⟨rfl, hK⟩
                refine gy rfl <| vl (nt rfl) <| vl (pk rfl) <| vl (mvv (v := .bool _) rfl) <| ?_
                refine splP (t := 76) rfl (fun e6 => ?_) (fun e6 => ?_)
                · exact absurd rfl e6
                · have _ := trivial
                  refine gy rfl <| vl (mvv (v := .int _ _) rfl) <| gy rfl <| vl (mvv (v := .int _ _) rfl) <| gy rfl <| vl (ne rfl rfl) <| vl (pk rfl) <| nl <| thn <| ?_
                  refine cdP rfl (fun e7 => ?_) (fun e7 => ?_)
                  · exact absurd rfl e7
                  · have _ := trivial
                    have hzl : zg.length ≤ 1048576 := by
                      rcases hfg with ⟨_, _, h, _⟩ | ⟨_, h, _⟩
                      · rw [h]; exact hlu
                      · rw [h]; simp
                    refine sk <| thn <| sq <| rg <| ?_
                    refine vl (asv (v := .int _ _) rfl) <| nl <| thn <| sq <| rg <| vl mv <| vl (mvv (v := .int _ _) rfl) <| ?_
                    refine cl Try.call45 rfl (markIntS_c hK hog hzl (by first | omega | (simp only; omega)) (by first | omega | (simp only; omega))) ?_
                    rintro _ w ⟨rfl, Ag', hog', hK⟩
                    refine vl (asv (v := .int _ _) rfl) <| nl <| thn <| sq <| rg <| vl (asv (v := .int _ _) rfl) <| nl <| thn <| sq <| rg <| vl mv <| vl (mvv (v := .int _ _) rfl) <| ?_
                    refine cl Try.call46 rfl (heldIntS_o (n := zg.length) hK hog' hzl (by first | omega | (simp only; omega)) (by first | omega | (simp only; omega))) ?_
                    rintro _ w ⟨rfl, hK⟩
                    refine vl (asv (v := .int _ _) rfl) <| nl <| thn <| sq <| sq <| rg <| vl (mvv (v := .int _ _) rfl) <| vl (lt rfl rfl) <| nl <| thn <| ?_
                    refine cdP rfl (fun e8 => ?_) (fun e8 => ?_)
                    · exfalso; omega
                    · have _ := trivial
                      refine sk <| thn <| sq <| sq <| rg <| ?_
                      refine vl (mvv (v := .int _ _) rfl) <| vl (mvv (v := .int _ _) rfl) <| vl (ne rfl rfl) <| nl <| thn <| ?_
                      refine cdP rfl (fun e9 => ?_) (fun e9 => ?_)
                      · exfalso; omega
                      · have _ := trivial
                        refine sk <| thn <| sq <| rg <| ?_
                        refine vl mv <| ?_
                        refine cl Try.call40 rfl (toLeaseS_v hK hv hl) ?_
                        rintro vc w ⟨G6, hG6, hvc, hK⟩
                        refine vl mv <| ?_
                        refine cl Try.call41 rfl (toIntS_v hK (hu.mono hG6) hlu) ?_
                        rintro uc w ⟨G7, hG7, huc, hK⟩
                        refine cl Try.call36 rfl (implScanAll_v hK (hvc.mono hG7) huc) ?_
                        rintro _ w ⟨G8, vh, zh, mh, rfl, hfh, hG8, hh, hK⟩
                        have hun := hfh.uniq hfg
                        obtain ⟨un1, un2⟩ := hun
                        subst un1
                        subst un2
                        replace hw := hw.mono ((hG6.trans hG7).trans hG8)
                        refine vl mv <| vl (ext rfl rfl) <| vl (ext rfl rfl) <| vl asg <| vl (asv (v := .int _ _) rfl) <| nl <| thn <| sq <| sq <| rg <| vl mv <| vl mv <| ?_
                        refine cl Try.call42 rfl (eqIntS_c hK hh hw) ?_
                        rintro _ w ⟨rfl, hK⟩
                        refine vl (nt rfl) <| vl (mvv (v := .bool _) rfl) <| ?_
                        refine splP (t := 104) rfl (fun e10 => ?_) (fun e10 => ?_)
                        · exact absurd rfl e10
                        · have _ := trivial
                          refine gy rfl <| vl (mvv (v := .int _ _) rfl) <| gy rfl <| vl (mvv (v := .int _ _) rfl) <| gy rfl <| vl (ne rfl rfl) <| vl (pk rfl) <| nl <| thn <| ?_
                          refine cdP rfl (fun e11 => ?_) (fun e11 => ?_)
                          · exact absurd rfl e11
                          · have _ := trivial
                            refine sk <| thn <| sq <| rg <| ?_
                            refine vl (asv (v := .int _ _) rfl) <| nl <| thn <| sq <| rg <| vl mv <| vl (mvv (v := .int _ _) rfl) <| ?_
                            refine cl Try.call46 rfl (heldIntS_o (n := zh.length) hK hog' hzl (by first | omega | (simp only; omega)) (by first | omega | (simp only; omega))) ?_
                            rintro _ w ⟨rfl, hK⟩
                            refine vl (asv (v := .int _ _) rfl) <| nl <| thn <| sq <| sq <| rg <| vl (mvv (v := .int _ _) rfl) <| vl (lt rfl rfl) <| nl <| thn <| ?_
                            refine cdP rfl (fun e12 => ?_) (fun e12 => ?_)
                            · exfalso; omega
                            · have _ := trivial
                              refine sk <| thn <| sq <| sq <| rg <| ?_
                              refine vl (mvv (v := .int _ _) rfl) <| vl (mvv (v := .int _ _) rfl) <| vl (ne rfl rfl) <| nl <| thn <| ?_
                              refine cdP rfl (fun e13 => ?_) (fun e13 => ?_)
                              · exfalso; omega
                              · have _ := trivial
                                refine sk <| thn <| sq <| rg <| ?_
                                refine vl (asv (v := .bool _) rfl) <| nl <| thn <| rt <| p1r (a := .bool _) rfl <| ?_
                                exact ⟨rfl, _, _, hK, hG.trans ((hG6.trans hG7).trans hG8)⟩
end
end Go.Proofs.Ytemeepjdjaabmaa
