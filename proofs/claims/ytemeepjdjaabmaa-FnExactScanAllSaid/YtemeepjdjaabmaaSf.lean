/- The laws on scans: what each returns. Conditions: those that each row states. -/
import Derived.Test.YtemeepjdjaabmaaDs
namespace Go.Proofs.Ytemeepjdjaabmaa
open Go Go.Ro

section
variable {e w : World} {G : View} {L A : Own} {cva cvb v u t t2 : Value} {code cod xs ys ks ts us : List Int} {ls : List Ls} {n m : Int}

theorem implScanStep_v (hK : K e w G L) (hv : LeaS G v ls) (hk : IntS G u ks) (ht : IntS G t ts) (htl : ts.length ≤ 1000000000) :
    Ret Try.prog 32 #[v, u, .agg #[.int .i64 n, t]] w (fun r w' => ∃ G' t', r = .tuple #[.agg #[.int .i64 (scanF ls ks (n, ts)).1.1, t'], .bool (scanF ls ks (n, ts)).2] ∧
      VLe G G' ∧ IntS G' t' (scanF ls ks (n, ts)).1.2 ∧ K e w' G' L) :=
  (implScanStep_c hK hv hk ht htl).mono fun _ _ ⟨t', _, hr, ho, hK⟩ => let ⟨G', h1, h2, h3⟩ := hK.pubO ho; ⟨G', t', hr, h1, h2, h3⟩
theorem specScanStep_v (hK : K e w G L) (hv : LeaS G v ls) (hk : IntS G u ks) (ht : IntS G t ts) (htl : ts.length ≤ 1000000000) :
    Ret Try.prog 48 #[v, u, .agg #[.int .i64 n, t]] w (fun r w' => ∃ G' t', r = .tuple #[.agg #[.int .i64 (scanF ls ks (n, ts)).1.1, t'], .bool (scanF ls ks (n, ts)).2] ∧
      VLe G G' ∧ IntS G' t' (scanF ls ks (n, ts)).1.2 ∧ K e w' G' L) :=
  (specScanStep_c hK hv hk ht htl).mono fun _ _ ⟨t', _, hr, ho, hK⟩ => let ⟨G', h1, h2, h3⟩ := hK.pubO ho; ⟨G', t', hr, h1, h2, h3⟩
theorem implScanAll_v (hK : K e w G L) (hv : LeaS G v ls) (hk : IntS G u ks) :
    Ret Try.prog 36 #[v, u] w (fun r w' => ∃ G' t' zs m, r = .tuple #[t', .int .i64 m] ∧ AllF ls ks zs m ∧ VLe G G' ∧ IntS G' t' zs ∧ K e w' G' L) :=
  (implScanAll_c hK hv hk).mono fun _ _ ⟨t', _, zs, m, hr, hf, ho, hK⟩ => let ⟨G', h1, h2, h3⟩ := hK.pubO ho; ⟨G', t', zs, m, hr, hf, h1, h2, h3⟩
theorem specScanAll_v (hK : K e w G L) (hv : LeaS G v ls) (hk : IntS G u ks) :
    Ret Try.prog 37 #[v, u] w (fun r w' => ∃ G' t' zs m, r = .tuple #[t', .int .i64 m] ∧ AllF ls ks zs m ∧ VLe G G' ∧ IntS G' t' zs ∧ K e w' G' L) :=
  (specScanAll_c hK hv hk).mono fun _ _ ⟨t', _, zs, m, hr, hf, ho, hK⟩ => let ⟨G', h1, h2, h3⟩ := hK.pubO ho; ⟨G', t', zs, m, hr, hf, h1, h2, h3⟩

theorem FnScanStep_c (hK : K e w G L) (hc : BytS G cva code) : Ret Try.prog 11 #[cva] w (fun r w' => r = .bool true ∧ ∃ G' L', K e w' G' L' ∧ VLe G G') := by
  refine enter1 (args := [cva]) Try.func11 rfl rfl rfl rfl ?_
  refine sq <| rg <| ?_
  refine vl (asv (v := .bool _) rfl) <| nl <| thn <| sq <| sq <| rg <| vl mv <| vl (ln Try.underlying22 rfl hc.len) <| vl (gt rfl rfl) <| nl <| thn <| ?_
  refine cdP rfl (fun hbig => ?_) (fun hbig => ?_)
  · refine sq <| rg <| ?_
    refine vl (asv (v := .bool _) rfl) <| nl <| thn <| rt <| thr <| p1r (a := .bool _) rfl <| ?_
    exact ⟨rfl, _, _, hK, VLe.refl _⟩
  · refine sk <| thn <| sq <| rg <| ?_
    refine vl mv <| ?_
    refine cl Try.call47 rfl (DrawScanStep_c hK hc) ?_
    rintro _ w ⟨G1, v, ls, u, ks, t, n, zs, rfl, hG1, hv, hu, ht, hl, hk, hk0, hz, hK⟩
    refine vl mv <| vl (ext rfl rfl) <| vl (ext rfl rfl) <| vl (ext rfl rfl) <| ?_
    refine al hK Ty.i33 rfl ?_
    intro b5 w hK
    refine vl asg <| vl asg <| ?_
    refine soS hK Ty.i33 0 rfl rfl rfl rfl (allc rfl (allc ht.1.one rfl)) rfl ?_
    intro w hK
    refine nl <| thn <| sq <| rg <| vl mv <| vl mv <| vl (lsO hK Ty.a33 Ty.s33 0 rfl rfl rfl) <| ?_
    refine cl Try.call32 rfl (implScanStep_v hK hv hu ht (by first | omega | (simp only; omega))) ?_
    rintro _ w ⟨G2, t1, rfl, hG2, ht1, hK⟩
    replace hv := hv.mono hG2
    replace hu := hu.mono hG2
    replace ht := ht.mono hG2
    refine vl mv <| vl (ext rfl rfl) <| vl (ext rfl rfl) <| ?_
    refine al hK Ty.i33 rfl ?_
    intro b6 w hK
    refine soS hK Ty.i33 0 rfl rfl rfl rfl (allc rfl (allc ht1.1.one rfl)) rfl ?_
    intro w hK
    refine vl (asv (v := .bool _) rfl) <| nl <| thn <| sq <| rg <| vl mv <| vl mv <| vl (lsO hK Ty.a33 Ty.s33 1 rfl rfl rfl) <| ?_
    refine cl Try.call48 rfl (specScanStep_v hK hv hu ht (by first | omega | (simp only; omega))) ?_
    rintro _ w ⟨G3, t2, rfl, hG3, ht2, hK⟩
    replace hv := hv.mono hG3
    replace hu := hu.mono hG3
    replace ht := ht.mono hG3
    replace ht1 := ht1.mono hG3
    have hG := (hG1.trans hG2).trans hG3
    refine vl mv <| vl (ext rfl rfl) <| vl (ext rfl rfl) <| ?_
    refine al hK Ty.i33 rfl ?_
    intro b8 w hK
    refine soS hK Ty.i33 0 rfl rfl rfl rfl (allc rfl (allc ht2.1.one rfl)) rfl ?_
    intro w hK
    refine vl (asv (v := .bool _) rfl) <| nl <| thn <| sq <| sq <| rg <| vl (mvv (v := .bool _) rfl) <| vl (mvv (v := .bool _) rfl) <| vl (neB Try.underlying4 rfl rfl) <| vl (mvv (v := .bool _) rfl) <| ?_
    refine spl (t := 36) rfl (fun h1 => ?_) (fun h1 => ?_)
    · simp at h1
    · have _ := trivial
      refine gy rfl <| vl (lsO hK Ty.a33 Ty.s33 1 rfl rfl rfl) <| gy rfl <| vl (lsO hK Ty.a33 Ty.s33 0 rfl rfl rfl) <| gy rfl <| ?_
      refine cl Try.call34 rfl (sameScan_c hK (by assumption) (by assumption)) ?_
      rintro _ w ⟨rfl, hK⟩
      refine gy rfl <| vl (nt rfl) <| vl (pk rfl) <| vl (mvv (v := .bool _) rfl) <| ?_
      refine splP (t := 42) rfl (fun h2 => ?_) (fun h2 => ?_)
      · exact absurd ⟨rfl, rfl⟩ h2
      · have _ := trivial
        refine gy rfl <| vl (mvv (v := .bool _) rfl) <| gy rfl <| vl (ntB rfl) <| vl (pk rfl) <| nl <| thn <| ?_
        refine cdB rfl (fun h3 => ?_) (fun h3 => ?_)
        · simp at h3
          refine sq <| rg <| ?_
          refine vl (mvv (v := .bool _) rfl) <| vl (mvv (v := .bool _) rfl) <| vl (eqB Try.underlying4 rfl rfl) <| vl (mvv (v := .bool _) rfl) <| ?_
          refine spl (t := 49) rfl (fun h4 => ?_) (fun h4 => ?_)
          · refine gy rfl <| vl (lsO hK Ty.a33 Ty.s33 1 rfl rfl rfl) <| gy rfl <| vl (lsO hK Ty.a33 Ty.s33 0 rfl rfl rfl) <| gy rfl <| ?_
            refine cl Try.call34 rfl (sameScan_c hK (by assumption) (by assumption)) ?_
            rintro _ w ⟨rfl, hK⟩
            refine vl (pk rfl) <| vl (asv (v := .bool _) rfl) <| nl <| thn <| rt <| thr <| p1r (a := .bool _) rfl <| ?_
            exact ⟨by simp, _, _, hK, hG⟩
          · refine gn rfl <| gn rfl <| gn rfl <| vl (pk rfl) <| vl (asv (v := .bool _) rfl) <| nl <| thn <| rt <| thr <| p1r (a := .bool _) rfl <| ?_
            simp at h4
        · simp at h3
          obtain ⟨hok, hn, hst, hso⟩ := scanF_ok h3
          rw [hst] at ht1 ht2 hK
          refine sk <| thn <| sq <| ?_
          have hlen : zs.length ≤ (stp ls ks (n, zs)).2.length := by show zs.length ≤ (zs ++ _).length; rw [List.length_append]; omega
          have hnx := nx_bd (n := n) hok.1 hn
          have hsl := SlR.slc ht1 (l := 0) (h := zs.length) (by omega) hlen
          have hkeep : ((stp ls ks (n, zs)).2.take zs.length).drop 0 = zs := by show ((zs ++ _).take zs.length).drop 0 = zs; simp
          have hle1 := ht.le
          have hle2 := ht1.le
          refine rgq (fun w => K _ w _ _) Ty.mixed (by kernel_rfl) (hK.drawn _) ?_
          refine qlsO Ty.a33 Ty.s33 1 rfl rfl rfl <| ?_
          refine qcl Try.call23 rfl (fun w hK => implScanValid_c hK (by assumption)) ?_
          refine qv (fun w hK => (mvv (v := .bool _) rfl)) <| ?_
          refine qspl (t := 56) rfl (fun h5 => ?_) (fun h5 => ?_)
          · refine qgy rfl <| ?_; refine qv (fun w hK => (fa Try.underlying33 rfl Ty.z3 rfl)) <| ?_; refine qgy rfl <| ?_; refine qldO Ty.o3 1 rfl rfl rfl <| ?_; refine qgy rfl <| ?_; refine qv (fun w hK => (fa Try.underlying33 rfl Ty.z3 rfl)) <| ?_; refine qgy rfl <| ?_; refine qldO Ty.o3 2 rfl rfl rfl <| ?_; refine qgy rfl <| ?_; refine qv (fun w hK => (gt rfl rfl)) <| ?_; refine qv (fun w hK => (pk rfl)) <| ?_; refine qv (fun w hK => (mvv (v := .bool _) rfl)) <| ?_
            refine qsplP (t := 63) rfl (fun h6 => ?_) (fun h6 => ?_)
            · refine qgy rfl <| ?_; refine qv (fun w hK => (fa Try.underlying33 rfl Ty.z24 rfl)) <| ?_; refine qgy rfl <| ?_; refine qldO Ty.o24 1 rfl rfl rfl <| ?_; refine qgy rfl <| ?_; refine qv (fun w hK => (ln Try.underlying24 rfl ht1.len)) <| ?_; refine qgy rfl <| ?_; refine qv (fun w hK => (fa Try.underlying33 rfl Ty.z24 rfl)) <| ?_; refine qgy rfl <| ?_; refine qldO Ty.o24 2 rfl rfl rfl <| ?_; refine qgy rfl <| ?_; refine qv (fun w hK => (ln Try.underlying24 rfl ht.len)) <| ?_; refine qgy rfl <| ?_; refine qv (fun w hK => (ge rfl rfl)) <| ?_; refine qv (fun w hK => (pk rfl)) <| ?_; refine qv (fun w hK => (mvv (v := .bool _) rfl)) <| ?_
              refine qsplP (t := 72) rfl (fun h7 => ?_) (fun h7 => ?_)
              · refine qgy rfl <| ?_; refine qv (fun w hK => (fa Try.underlying33 rfl Ty.z24 rfl)) <| ?_; refine qgy rfl <| ?_; refine qldO Ty.o24 1 rfl rfl rfl <| ?_; refine qgy rfl <| ?_; refine qv (fun w hK => (fa Try.underlying33 rfl Ty.z24 rfl)) <| ?_; refine qgy rfl <| ?_; refine qldO Ty.o24 2 rfl rfl rfl <| ?_; refine qgy rfl <| ?_; refine qv (fun w hK => (ln Try.underlying24 rfl ht.len)) <| ?_; refine qgy rfl <| ?_; refine qv (fun w hK => (slHi (h := zs.length) Try.underlying24 Ty.s3 rfl ht1.1 rfl hlen)) <| ?_; refine qgy rfl <| ?_; refine qv (fun w hK => (fa Try.underlying33 rfl Ty.z24 rfl)) <| ?_; refine qgy rfl <| ?_; refine qldO Ty.o24 2 rfl rfl rfl <| ?_; refine qgy rfl <| ?_
                refine qcl Try.call38 rfl (fun w hK => sameInts_c hK (by assumption) (by assumption)) ?_
                refine qv (fun w hK => (pk rfl)) <| ?_; refine qv (fun w hK => (asv (v := .bool _) rfl)) <| ?_; refine qn <| ?_
                intro w hK
                refine thn <| rt <| p1r (a := .bool _) rfl <| ?_
                exact ⟨by rw [hkeep]; simp, _, _, hK, hG⟩
              · refine qgn rfl <| ?_; refine qgn rfl <| ?_; refine qgn rfl <| ?_; refine qgn rfl <| ?_; refine qgn rfl <| ?_; refine qgn rfl <| ?_; refine qgn rfl <| ?_; refine qgn rfl <| ?_; refine qgn rfl <| ?_; refine qv (fun w hK => (pk rfl)) <| ?_; refine qv (fun w hK => (asv (v := .bool _) rfl)) <| ?_; refine qn <| ?_
                intro w hK
                refine thn <| rt <| p1r (a := .bool _) rfl <| ?_
                exfalso; omega
            · refine qgn rfl <| ?_; refine qgn rfl <| ?_; refine qgn rfl <| ?_; refine qgn rfl <| ?_; refine qgn rfl <| ?_; refine qgn rfl <| ?_; refine qgn rfl <| ?_; refine qv (fun w hK => (pk rfl)) <| ?_; refine qv (fun w hK => (mvv (v := .bool _) rfl)) <| ?_; refine qgn rfl <| ?_; refine qgn rfl <| ?_; refine qgn rfl <| ?_; refine qgn rfl <| ?_; refine qgn rfl <| ?_; refine qgn rfl <| ?_; refine qgn rfl <| ?_; refine qgn rfl <| ?_; refine qgn rfl <| ?_; refine qv (fun w hK => (pk rfl)) <| ?_; refine qv (fun w hK => (asv (v := .bool _) rfl)) <| ?_; refine qn <| ?_
              intro w hK
              refine thn <| rt <| p1r (a := .bool _) rfl <| ?_
              exfalso; exact h6 hnx.1
          · refine qgn rfl <| ?_; refine qgn rfl <| ?_; refine qgn rfl <| ?_; refine qgn rfl <| ?_; refine qgn rfl <| ?_; refine qv (fun w hK => (pk rfl)) <| ?_; refine qv (fun w hK => (mvv (v := .bool _) rfl)) <| ?_; refine qgn rfl <| ?_; refine qgn rfl <| ?_; refine qgn rfl <| ?_; refine qgn rfl <| ?_; refine qgn rfl <| ?_; refine qgn rfl <| ?_; refine qgn rfl <| ?_; refine qv (fun w hK => (pk rfl)) <| ?_; refine qv (fun w hK => (mvv (v := .bool _) rfl)) <| ?_; refine qgn rfl <| ?_; refine qgn rfl <| ?_; refine qgn rfl <| ?_; refine qgn rfl <| ?_; refine qgn rfl <| ?_; refine qgn rfl <| ?_; refine qgn rfl <| ?_; refine qgn rfl <| ?_; refine qgn rfl <| ?_; refine qv (fun w hK => (pk rfl)) <| ?_; refine qv (fun w hK => (asv (v := .bool _) rfl)) <| ?_; refine qn <| ?_
            intro w hK
            refine thn <| rt <| p1r (a := .bool _) rfl <| ?_
            exact absurd hso (not_dec h5)

theorem FnScanStepKeys_c (hK : K e w G L) (hc : BytS G cva code) : Ret Try.prog 12 #[cva] w (fun r w' => r = .bool true ∧ ∃ G' L', K e w' G' L' ∧ VLe G G') := by
  refine enter1 (args := [cva]) Try.func12 rfl rfl rfl rfl ?_
  refine sq <| rg <| ?_
  refine vl (asv (v := .bool _) rfl) <| nl <| thn <| sq <| sq <| rg <| vl mv <| vl (ln Try.underlying22 rfl hc.len) <| vl (gt rfl rfl) <| nl <| thn <| ?_
  refine cdP rfl (fun hbig => ?_) (fun hbig => ?_)
  · refine sq <| rg <| ?_
    refine vl (asv (v := .bool _) rfl) <| nl <| thn <| rt <| thr <| p1r (a := .bool _) rfl <| ?_
    exact ⟨rfl, _, _, hK, VLe.refl _⟩
  · refine sk <| thn <| sq <| rg <| ?_
    refine vl mv <| ?_
    refine cl Try.call47 rfl (DrawScanStep_c hK hc) ?_
    rintro _ w ⟨G1, v, ls, u, ks, t, n, zs, rfl, hG1, hv, hu, ht, hl, hk, hk0, hz, hK⟩
    refine vl mv <| vl (ext rfl rfl) <| vl (ext rfl rfl) <| vl (ext rfl rfl) <| ?_
    refine al hK Ty.i33 rfl ?_
    intro b5 w hK
    refine vl asg <| vl asg <| ?_
    refine soS hK Ty.i33 0 rfl rfl rfl rfl (allc rfl (allc ht.1.one rfl)) rfl ?_
    intro w hK
    refine nl <| thn <| sq <| rg <| vl mv <| vl mv <| vl (lsO hK Ty.a33 Ty.s33 0 rfl rfl rfl) <| ?_
    refine cl Try.call32 rfl (implScanStep_v hK hv hu ht (by first | omega | (simp only; omega))) ?_
    rintro _ w ⟨G2, t1, rfl, hG2, ht1, hK⟩
    replace hv := hv.mono hG2
    replace hu := hu.mono hG2
    replace ht := ht.mono hG2
    refine vl mv <| vl (ext rfl rfl) <| vl (ext rfl rfl) <| ?_
    refine al hK Ty.i33 rfl ?_
    intro b6 w hK
    refine soS hK Ty.i33 0 rfl rfl rfl rfl (allc rfl (allc ht1.1.one rfl)) rfl ?_
    intro w hK
    refine vl (asv (v := .bool _) rfl) <| nl <| thn <| sq <| rg <| vl mv <| vl mv <| vl (lsO hK Ty.a33 Ty.s33 1 rfl rfl rfl) <| ?_
    refine cl Try.call48 rfl (specScanStep_v hK hv hu ht (by first | omega | (simp only; omega))) ?_
    rintro _ w ⟨G3, t2, rfl, hG3, ht2, hK⟩
    replace hv := hv.mono hG3
    replace hu := hu.mono hG3
    replace ht := ht.mono hG3
    replace ht1 := ht1.mono hG3
    have hG := (hG1.trans hG2).trans hG3
    refine vl mv <| vl (ext rfl rfl) <| vl (ext rfl rfl) <| ?_
    refine al hK Ty.i33 rfl ?_
    intro b8 w hK
    refine soS hK Ty.i33 0 rfl rfl rfl rfl (allc rfl (allc ht2.1.one rfl)) rfl ?_
    intro w hK
    refine vl (asv (v := .bool _) rfl) <| nl <| thn <| sq <| sq <| rg <| vl (mvv (v := .bool _) rfl) <| vl (mvv (v := .bool _) rfl) <| vl (neB Try.underlying4 rfl rfl) <| vl (mvv (v := .bool _) rfl) <| ?_
    refine spl (t := 38) rfl (fun h1 => ?_) (fun h1 => ?_)
    · simp at h1
    · have _ := trivial
      refine gy rfl <| vl (lsO hK Ty.a33 Ty.s33 1 rfl rfl rfl) <| gy rfl <| vl (lsO hK Ty.a33 Ty.s33 0 rfl rfl rfl) <| gy rfl <| ?_
      refine cl Try.call34 rfl (sameScan_c hK (by assumption) (by assumption)) ?_
      rintro _ w ⟨rfl, hK⟩
      refine gy rfl <| vl (nt rfl) <| vl (pk rfl) <| vl (mvv (v := .bool _) rfl) <| ?_
      refine splP (t := 44) rfl (fun h2 => ?_) (fun h2 => ?_)
      · exact absurd ⟨rfl, rfl⟩ h2
      · have _ := trivial
        refine gy rfl <| vl (mvv (v := .bool _) rfl) <| gy rfl <| vl (ntB rfl) <| vl (pk rfl) <| nl <| thn <| ?_
        refine cdB rfl (fun h3 => ?_) (fun h3 => ?_)
        · simp at h3
          refine sq <| rg <| ?_
          refine vl (mvv (v := .bool _) rfl) <| vl (mvv (v := .bool _) rfl) <| vl (eqB Try.underlying4 rfl rfl) <| vl (mvv (v := .bool _) rfl) <| ?_
          refine spl (t := 51) rfl (fun h4 => ?_) (fun h4 => ?_)
          · refine gy rfl <| vl (lsO hK Ty.a33 Ty.s33 1 rfl rfl rfl) <| gy rfl <| vl (lsO hK Ty.a33 Ty.s33 0 rfl rfl rfl) <| gy rfl <| ?_
            refine cl Try.call34 rfl (sameScan_c hK (by assumption) (by assumption)) ?_
            rintro _ w ⟨rfl, hK⟩
            refine vl (pk rfl) <| vl (asv (v := .bool _) rfl) <| nl <| thn <| rt <| thr <| p1r (a := .bool _) rfl <| ?_
            exact ⟨by simp, _, _, hK, hG⟩
          · refine gn rfl <| gn rfl <| gn rfl <| vl (pk rfl) <| vl (asv (v := .bool _) rfl) <| nl <| thn <| rt <| thr <| p1r (a := .bool _) rfl <| ?_
            simp at h4
        · simp at h3
          obtain ⟨hok, hn, hst, hso⟩ := scanF_ok h3
          rw [hst] at ht1 ht2 hK
          refine sk <| thn <| sq <| rg <| ?_
          refine bs0 hK Try.underlying24 Ty.i3 ?_
          intro b56 w hK
          refine vl asg <| nl <| thn <| sq <| sq <| rg <| vl (asv (v := .int _ _) rfl) <| nl <| thn <| bk <| ?_
          have hlen : zs.length ≤ (stp ls ks (n, zs)).2.length := by show zs.length ≤ (zs ++ _).length; rw [List.length_append]; omega
          have hle1 := ht.le
          have hle2 := ht1.le
          have hle3 := hu.le
          refine lp (σ := Nat × Value × Own) (fun s => [(4, u), (5, .pointer (some ⟨b5, 0, none⟩)), (6, .pointer (some ⟨b6, 0, none⟩)), (10, s.2.1), (11, .int .i64 (s.1 : Int))]) (fun s w => s.1 ≤ ks.length ∧ OS 1 3 s.2.1 ((ks.take s.1).filter fun k => decide (n ≤ k ∧ k < nx ls n)).length (ints ((ks.take s.1).filter fun k => decide (n ≤ k ∧ k < nx ls n))) s.2.2 ∧ K e w G3 ((b6, row [.int .i64 (nx ls n), t1] 33) :: (b5, row [.int .i64 n, t] 33) :: (s.2.2 ++ L))) (fun s => ks.length - s.1) (0, .slice (some ⟨b56, 0, none⟩) 0 0, [(b56, row [] 3)]) ⟨rfl, rfl, rfl, rfl, rfl, trivial⟩ ⟨Nat.zero_le _, OS.none, K.mid (A := [_]) (B := [_, _]) (K.sl hK (List.Sublist.cons_cons _ (List.Sublist.cons _ (List.Sublist.refl _))))⟩ ?_
          rintro ⟨i, v1, A1⟩ g w ⟨hi, ho, hK⟩
          simp only at hi ho hK
          refine sq <| sq <| rg <| ?_
          refine vl (mvv (v := .int _ _) rfl) <| vl mv <| vl (ln Try.underlying24 rfl hu.len) <| vl (lt rfl rfl) <| nl <| thn <| ?_
          refine cdP rfl (fun hc => ?_) (fun hc => ?_)
          · have hi' : i < ks.length := by simp only at hc; omega
            have hft := filter_take_succ (p := fun k => decide (n ≤ k ∧ k < nx ls n)) hi'
            have hfl : ((ks.take i).filter fun k => decide (n ≤ k ∧ k < nx ls n)).length ≤ ks.length := Nat.le_trans (List.length_filter_le _ _) (by rw [List.length_take]; omega)
            refine sk <| thn <| sq <| bk <| sq <| ?_
            refine rgq (fun w => K _ w _ _) Ty.mixed (by kernel_rfl) (hK.drawn _) ?_
            refine qv (fun w hK => mv) <| ?_; refine qv (fun w hK => (mvv (v := .int _ _) rfl)) <| ?_; refine qv (fun w hK => (ixn1 Try.underlying24 Ty.s3 rfl hu.1 rfl (by first | omega | (simp only; omega)))) <| ?_; refine qldV Ty.o3 rfl (hu.at (by first | omega | (simp only; omega))) <| ?_; refine qv (fun w hK => (fa Try.underlying33 rfl Ty.z3 rfl)) <| ?_; refine qldO Ty.o3 1 rfl rfl rfl <| ?_; refine qv (fun w hK => (ge rfl rfl)) <| ?_; refine qv (fun w hK => (mvv (v := .bool _) rfl)) <| ?_
            refine qsplP (t := 70) rfl (fun h5 => ?_) (fun h5 => ?_)
            · try simp only at h5
              refine qgy rfl <| ?_; refine qv (fun w hK => mv) <| ?_; refine qgy rfl <| ?_; refine qv (fun w hK => (mvv (v := .int _ _) rfl)) <| ?_; refine qgy rfl <| ?_; refine qv (fun w hK => (ixn1 Try.underlying24 Ty.s3 rfl hu.1 rfl (by first | omega | (simp only; omega)))) <| ?_; refine qgy rfl <| ?_; refine qldV Ty.o3 rfl (hu.at (by first | omega | (simp only; omega))) <| ?_; refine qgy rfl <| ?_; refine qv (fun w hK => (fa Try.underlying33 rfl Ty.z3 rfl)) <| ?_; refine qgy rfl <| ?_; refine qldO Ty.o3 0 rfl rfl rfl <| ?_; refine qgy rfl <| ?_; refine qv (fun w hK => (lt rfl rfl)) <| ?_; refine qv (fun w hK => (pk rfl)) <| ?_; refine qn <| ?_
              intro w hK
              refine thn <| ?_
              refine cdP rfl (fun h6 => ?_) (fun h6 => ?_)
              · try simp only at h6
                refine rg <| ?_
                refine vl mv <| vl mv <| vl (mvv (v := .int _ _) rfl) <| vl (ixn1 Try.underlying24 Ty.s3 rfl hu.1 rfl (by first | omega | (simp only; omega))) <| vl (ldV hK Ty.o3 rfl (hu.at (by first | omega | (simp only; omega)))) <| ?_
                refine bsN [.tmp 83] hK Try.underlying24 Ty.i3 rfl rfl rfl rfl rfl rfl rfl rfl ?_
                intro b84 w hK
                rw [if_pos (decide_eq_true ⟨h5, h6⟩)] at hft
                replace hK := hK.midc (A := [_, _])
                refine apI1 (k := ks[i]) hK Try.underlying24 Ty.i3 rfl rfl ho rfl (by first | omega | (simp only; omega)) fun v2 A2 w ho hK => ?_
                replace hK := K.mid (B := [_, _]) hK
                refine vl asg <| nl <| bkn <| thn <| rg <| vl (mvv (v := .int _ _) rfl) <| vl (ad rfl rfl (by first | omega | (simp only; omega)) (by first | omega | (simp only; omega))) <| vl (asv (v := .int _ _) rfl) <| nl <| thn <| ?_
                rw [← hft] at ho
                exact ⟨(i + 1, v2, A2), ⟨rfl, rfl, rfl, rfl, rfl, trivial⟩, ⟨hi', ho, hK⟩, by simp only; omega⟩
              · try simp only at h6
                refine sk <| bkn <| thn <| rg <| ?_
                refine vl (mvv (v := .int _ _) rfl) <| vl (ad rfl rfl (by first | omega | (simp only; omega)) (by first | omega | (simp only; omega))) <| vl (asv (v := .int _ _) rfl) <| nl <| thn <| ?_
                rw [if_neg (by rw [decide_eq_true_eq]; omega), List.append_nil] at hft
                exact ⟨(i + 1, v1, A1), ⟨rfl, rfl, rfl, rfl, rfl, trivial⟩, ⟨hi', by rw [hft]; exact ho, hK⟩, by simp only; omega⟩
            · try simp only at h5
              refine qgn rfl <| ?_; refine qgn rfl <| ?_; refine qgn rfl <| ?_; refine qgn rfl <| ?_; refine qgn rfl <| ?_; refine qgn rfl <| ?_; refine qgn rfl <| ?_; refine qv (fun w hK => (pk rfl)) <| ?_; refine qn <| ?_
              intro w hK
              refine thn <| ?_
              refine cdf rfl ?_
              refine sk <| bkn <| thn <| rg <| ?_
              refine vl (mvv (v := .int _ _) rfl) <| vl (ad rfl rfl (by first | omega | (simp only; omega)) (by first | omega | (simp only; omega))) <| vl (asv (v := .int _ _) rfl) <| nl <| thn <| ?_
              rw [if_neg (by rw [decide_eq_true_eq]; omega), List.append_nil] at hft
              exact ⟨(i + 1, v1, A1), ⟨rfl, rfl, rfl, rfl, rfl, trivial⟩, ⟨hi', by rw [hft]; exact ho, hK⟩, by simp only; omega⟩
          · have hi' : i = ks.length := by simp only at hc; omega
            subst hi'
            rw [List.take_length] at ho
            have hsl := SlR.slc ht1 (l := zs.length) (h := (stp ls ks (n, zs)).2.length) hlen (Nat.le_refl _)
            have hkeep : ((stp ls ks (n, zs)).2.take (stp ls ks (n, zs)).2.length).drop zs.length = ks.filter fun k => decide (n ≤ k ∧ k < nx ls n) := by rw [List.take_length]; show (zs ++ _).drop zs.length = _; simp
            obtain ⟨G4, hG4, hx, hK⟩ := (K.mid (A := [_, _]) hK).pubO ho
            replace hsl := IntS.mono hsl hG4
            refine ex <| the <| the <| bkh <| thn <| sq <| rg <| ?_
            refine vl (fa Try.underlying33 rfl Ty.z24 rfl) <| vl (ldO hK Ty.o24 0 rfl rfl rfl) <| vl (fa Try.underlying33 rfl Ty.z24 rfl) <| vl (ldO hK Ty.o24 1 rfl rfl rfl) <| vl (ln Try.underlying24 rfl ht.len) <| vl (slLo (l := zs.length) Try.underlying24 Ty.s3 rfl ht1.1 rfl hlen) <| vl mv <| ?_
            refine cl Try.call38 rfl (sameInts_c hK (by assumption) (by assumption)) ?_
            rintro _ w ⟨rfl, hK⟩
            refine vl (asv (v := .bool _) rfl) <| nl <| thn <| rt <| p1r (a := .bool _) rfl <| ?_
            exact ⟨by rw [hkeep]; simp, _, _, hK, hG.trans hG4⟩

theorem FnScanStepOne_c (hK : K e w G L) (hc : BytS G cva code) : Ret Try.prog 13 #[cva] w (fun r w' => r = .bool true ∧ ∃ G' L', K e w' G' L' ∧ VLe G G') := by
  refine enter1 (args := [cva]) Try.func13 rfl rfl rfl rfl ?_
  refine sq <| rg <| ?_
  refine vl (asv (v := .bool _) rfl) <| nl <| thn <| sq <| sq <| rg <| vl mv <| vl (ln Try.underlying22 rfl hc.len) <| vl (gt rfl rfl) <| nl <| thn <| ?_
  refine cdP rfl (fun hbig => ?_) (fun hbig => ?_)
  · refine sq <| rg <| ?_
    refine vl (asv (v := .bool _) rfl) <| nl <| thn <| rt <| thr <| p1r (a := .bool _) rfl <| ?_
    exact ⟨rfl, _, _, hK, VLe.refl _⟩
  · refine sk <| thn <| sq <| rg <| ?_
    refine vl mv <| ?_
    refine cl Try.call47 rfl (DrawScanStep_c hK hc) ?_
    rintro _ w ⟨G1, v, ls, u, ks, t, n, zs, rfl, hG1, hv, hu, ht, hl, hk, hk0, hz, hK⟩
    refine vl mv <| vl (ext rfl rfl) <| vl (ext rfl rfl) <| vl (ext rfl rfl) <| ?_
    refine al hK Ty.i33 rfl ?_
    intro b5 w hK
    refine vl asg <| vl asg <| ?_
    refine soS hK Ty.i33 0 rfl rfl rfl rfl (allc rfl (allc ht.1.one rfl)) rfl ?_
    intro w hK
    refine nl <| thn <| sq <| rg <| vl mv <| vl mv <| vl (lsO hK Ty.a33 Ty.s33 0 rfl rfl rfl) <| ?_
    refine cl Try.call32 rfl (implScanStep_v hK hv hu ht (by first | omega | (simp only; omega))) ?_
    rintro _ w ⟨G2, t1, rfl, hG2, ht1, hK⟩
    replace hv := hv.mono hG2
    replace hu := hu.mono hG2
    replace ht := ht.mono hG2
    refine vl mv <| vl (ext rfl rfl) <| vl (ext rfl rfl) <| ?_
    refine al hK Ty.i33 rfl ?_
    intro b6 w hK
    refine soS hK Ty.i33 0 rfl rfl rfl rfl (allc rfl (allc ht1.1.one rfl)) rfl ?_
    intro w hK
    refine vl (asv (v := .bool _) rfl) <| nl <| thn <| sq <| rg <| vl mv <| vl mv <| vl (lsO hK Ty.a33 Ty.s33 1 rfl rfl rfl) <| ?_
    refine cl Try.call48 rfl (specScanStep_v hK hv hu ht (by first | omega | (simp only; omega))) ?_
    rintro _ w ⟨G3, t2, rfl, hG3, ht2, hK⟩
    replace hv := hv.mono hG3
    replace hu := hu.mono hG3
    replace ht := ht.mono hG3
    replace ht1 := ht1.mono hG3
    have hG := (hG1.trans hG2).trans hG3
    refine vl mv <| vl (ext rfl rfl) <| vl (ext rfl rfl) <| ?_
    refine al hK Ty.i33 rfl ?_
    intro b8 w hK
    refine soS hK Ty.i33 0 rfl rfl rfl rfl (allc rfl (allc ht2.1.one rfl)) rfl ?_
    intro w hK
    refine vl (asv (v := .bool _) rfl) <| nl <| thn <| sq <| sq <| rg <| vl (mvv (v := .bool _) rfl) <| vl (mvv (v := .bool _) rfl) <| vl (neB Try.underlying4 rfl rfl) <| vl (mvv (v := .bool _) rfl) <| ?_
    refine spl (t := 41) rfl (fun h1 => ?_) (fun h1 => ?_)
    · simp at h1
    · have _ := trivial
      refine gy rfl <| vl (lsO hK Ty.a33 Ty.s33 1 rfl rfl rfl) <| gy rfl <| vl (lsO hK Ty.a33 Ty.s33 0 rfl rfl rfl) <| gy rfl <| ?_
      refine cl Try.call34 rfl (sameScan_c hK (by assumption) (by assumption)) ?_
      rintro _ w ⟨rfl, hK⟩
      refine gy rfl <| vl (nt rfl) <| vl (pk rfl) <| vl (mvv (v := .bool _) rfl) <| ?_
      refine splP (t := 47) rfl (fun h2 => ?_) (fun h2 => ?_)
      · exact absurd ⟨rfl, rfl⟩ h2
      · have _ := trivial
        refine gy rfl <| vl (mvv (v := .bool _) rfl) <| gy rfl <| vl (ntB rfl) <| vl (pk rfl) <| nl <| thn <| ?_
        refine cdB rfl (fun h3 => ?_) (fun h3 => ?_)
        · simp at h3
          refine sq <| rg <| ?_
          refine vl (mvv (v := .bool _) rfl) <| vl (mvv (v := .bool _) rfl) <| vl (eqB Try.underlying4 rfl rfl) <| vl (mvv (v := .bool _) rfl) <| ?_
          refine spl (t := 54) rfl (fun h4 => ?_) (fun h4 => ?_)
          · refine gy rfl <| vl (lsO hK Ty.a33 Ty.s33 1 rfl rfl rfl) <| gy rfl <| vl (lsO hK Ty.a33 Ty.s33 0 rfl rfl rfl) <| gy rfl <| ?_
            refine cl Try.call34 rfl (sameScan_c hK (by assumption) (by assumption)) ?_
            rintro _ w ⟨rfl, hK⟩
            refine vl (pk rfl) <| vl (asv (v := .bool _) rfl) <| nl <| thn <| rt <| thr <| p1r (a := .bool _) rfl <| ?_
            exact ⟨by simp, _, _, hK, hG⟩
          · refine gn rfl <| gn rfl <| gn rfl <| vl (pk rfl) <| vl (asv (v := .bool _) rfl) <| nl <| thn <| rt <| thr <| p1r (a := .bool _) rfl <| ?_
            simp at h4
        · simp at h3
          obtain ⟨hok, hn, hst, hso⟩ := scanF_ok h3
          rw [hst] at ht1 ht2 hK
          refine sk <| thn <| sq <| rg <| ?_
          refine vl mv <| vl (fa Try.underlying33 rfl Ty.z3 rfl) <| vl (ldO hK Ty.o3 2 rfl rfl rfl) <| ?_
          have hnx := nx_bd (n := n) hok.1 hn
          have hn0 : 0 ≤ n := hok.2.2.1.1
          have hle1 := hv.le
          refine cl Try.call49 rfl (LeaseOf_c hK hv) ?_
          rintro _ w ⟨⟨ba, xa, rfl, hba, hxa⟩, hK⟩
          obtain rfl := hxa hok.1 (show Pt n by omega)
          refine vl mv <| vl (ext rfl rfl) <| vl (ext rfl rfl) <| ?_
          refine al hK Ty.i63 rfl ?_
          intro b10 w hK
          refine soS hK Ty.i63 0 rfl rfl rfl rfl rfl rfl ?_
          intro w hK
          refine vl (asv (v := .bool _) rfl) <| nl <| thn <| sq <| sq <| rg <| vl (fa Try.underlying33 rfl Ty.z3 rfl) <| vl (ldO hK Ty.o3 3 rfl rfl rfl) <| vl (asv (v := .int _ _) rfl) <| nl <| thn <| bk <| ?_
          refine lp (σ := Nat) (fun i => [(3, v), (6, .pointer (some ⟨b6, 0, none⟩)), (10, .pointer (some ⟨b10, 0, none⟩)), (12, .int .i64 (n + (i : Int)))]) (fun i w => n + (i : Int) ≤ nx ls n ∧ ∃ L', K e w G3 ((b10, row (lc (lsAt ls n)) 63) :: (b6, row [.int .i64 (nx ls n), t1] 33) :: L')) (fun i => (nx ls n - n).toNat - i) 0 ⟨rfl, rfl, rfl, (by show Value.int .i64 n = Value.int .i64 (n + ((0 : Nat) : Int)); simp), trivial⟩ ⟨(by show n + ((0 : Nat) : Int) ≤ nx ls n; omega), _, K.sl hK (List.Sublist.cons_cons _ (List.Sublist.cons _ (List.Sublist.refl _)))⟩ ?_
          rintro i g w ⟨hi, L', hK⟩
          refine sq <| sq <| rg <| ?_
          refine vl (mvv (v := .int _ _) rfl) <| vl (fa Try.underlying33 rfl Ty.z3 rfl) <| vl (ldO hK Ty.o3 1 rfl rfl rfl) <| vl (lt rfl rfl) <| nl <| thn <| ?_
          refine cdP rfl (fun hc => ?_) (fun hc => ?_)
          · refine sk <| thn <| sq <| bk <| sq <| rg <| ?_
            refine vl mv <| vl (mvv (v := .int _ _) rfl) <| ?_
            refine cl Try.call49 rfl (LeaseOf_c hK hv) ?_
            rintro _ w ⟨⟨bb, xb, rfl, hbb, hxb⟩, hK⟩
            obtain rfl := hxb hok.1 (show Pt (n + (i : Int)) by omega)
            refine vl mv <| vl (ext rfl rfl) <| vl (ext rfl rfl) <| ?_
            refine al hK Ty.i63 rfl ?_
            intro b13 w hK
            refine soS hK Ty.i63 0 rfl rfl rfl rfl rfl rfl ?_
            intro w hK
            refine vl (asv (v := .bool _) rfl) <| nl <| thn <| sq <| rg <| vl (lsO hK Ty.a63 Ty.s63 0 rfl rfl rfl) <| vl (lsO hK Ty.a63 Ty.s63 1 rfl rfl rfl) <| vl (neS3 Try.underlying63 Try.underlying3 Try.underlying3 Try.underlying3 (by decide) (by decide) (by decide) rfl rfl rfl (by kernel_rfl) (by kernel_rfl) rfl rfl) <| nl <| thn <| ?_
            refine cdP rfl (fun hd => ?_) (fun hd => ?_)
            · exfalso
              rw [nx_one hok.1 (by omega) hc] at hd
              exact hd ⟨rfl, rfl, rfl⟩
            · have _ := trivial
              refine sk <| bkn <| thn <| rg <| ?_
              refine vl (mvv (v := .int _ _) rfl) <| vl (ad rfl rfl (by first | omega | (simp only; omega)) (by first | omega | (simp only; omega))) <| vl (asv (v := .int _ _) rfl) <| nl <| thn <| ?_
              refine ⟨i + 1, ⟨rfl, rfl, rfl, ?_, trivial⟩, ⟨by omega, _, hK.drop1⟩, by omega⟩
              show Value.int .i64 (n + (i : Int) + 1) = Value.int .i64 (n + ((i + 1 : Nat) : Int))
              congr 1; omega
          · refine ex <| the <| the <| bkh <| thn <| sq <| rg <| ?_
            refine vl (asv (v := .bool _) rfl) <| nl <| thn <| rt <| p1r (a := .bool _) rfl <| ?_
            exact ⟨rfl, _, _, hK, hG⟩

theorem FnScanAll_c (hK : K e w G L) (hc : BytS G cva code) : Ret Try.prog 8 #[cva] w (fun r w' => r = .bool true ∧ ∃ G' L', K e w' G' L' ∧ VLe G G') := by
  refine enter1 (args := [cva]) Try.func8 rfl rfl rfl rfl ?_
  refine sq <| rg <| ?_
  refine vl (asv (v := .bool _) rfl) <| nl <| thn <| sq <| sq <| rg <| vl mv <| vl (ln Try.underlying22 rfl hc.len) <| vl (gt rfl rfl) <| nl <| thn <| ?_
  refine cdP rfl (fun hbig => ?_) (fun hbig => ?_)
  · refine sq <| rg <| ?_
    refine vl (asv (v := .bool _) rfl) <| nl <| thn <| rt <| thr <| p1r (a := .bool _) rfl <| ?_
    exact ⟨rfl, _, _, hK, VLe.refl _⟩
  · refine sk <| thn <| sq <| rg <| ?_
    refine vl mv <| ?_
    refine cl Try.call35 rfl (DrawScanAll_c hK hc) ?_
    rintro _ w ⟨G1, v, ls, u, ks, rfl, hG1, hv, hu, hl, hk, hK⟩
    refine vl mv <| vl (ext rfl rfl) <| vl (ext rfl rfl) <| vl asg <| vl asg <| nl <| thn <| sq <| rg <| vl mv <| vl mv <| ?_
    refine cl Try.call36 rfl (implScanAll_v hK hv hu) ?_
    rintro _ w ⟨G2, t1, z1, m1, rfl, hf1, hG2, ht1, hK⟩
    replace hv := hv.mono hG2
    replace hu := hu.mono hG2
    refine vl mv <| vl (ext rfl rfl) <| vl (ext rfl rfl) <| vl asg <| vl (asv (v := .int _ _) rfl) <| nl <| thn <| sq <| rg <| vl mv <| vl mv <| ?_
    refine cl Try.call37 rfl (specScanAll_v hK hv hu) ?_
    rintro _ w ⟨G3, t2, z2, m2, rfl, hf2, hG3, ht2, hK⟩
    obtain ⟨hz, hm⟩ := hf2.uniq hf1
    subst hz
    subst hm
    replace hv := hv.mono hG3
    replace hu := hu.mono hG3
    replace ht1 := ht1.mono hG3
    have hG := (hG1.trans hG2).trans hG3
    have hle1 := hv.le
    refine vl mv <| vl (ext rfl rfl) <| vl (ext rfl rfl) <| vl asg <| vl (asv (v := .int _ _) rfl) <| nl <| thn <| sq <| sq <| rg <| vl (mvv (v := .int _ _) rfl) <| vl (mvv (v := .int _ _) rfl) <| vl (ne rfl rfl) <| vl (mvv (v := .bool _) rfl) <| ?_
    refine splP (t := 32) rfl (fun h1 => ?_) (fun h1 => ?_)
    · exact absurd rfl h1
    · have _ := trivial
      refine gy rfl <| vl mv <| gy rfl <| vl mv <| gy rfl <| ?_
      refine cl Try.call38 rfl (sameInts_c hK (by assumption) (by assumption)) ?_
      rintro _ w ⟨rfl, hK⟩
      refine gy rfl <| vl (nt rfl) <| vl (pk rfl) <| vl (mvv (v := .bool _) rfl) <| ?_
      refine splP (t := 38) rfl (fun h2 => ?_) (fun h2 => ?_)
      · exact absurd rfl h2
      · have _ := trivial
        refine gy rfl <| vl (mvv (v := .int _ _) rfl) <| gy rfl <| vl (lt rfl rfl) <| vl (pk rfl) <| nl <| thn <| ?_
        refine cdP rfl (fun h3 => ?_) (fun h3 => ?_)
        · refine sq <| rg <| ?_
          refine vl (mvv (v := .int _ _) rfl) <| vl (mvv (v := .int _ _) rfl) <| vl (eq rfl rfl) <| vl (mvv (v := .bool _) rfl) <| ?_
          refine splP (t := 45) rfl (fun h4 => ?_) (fun h4 => ?_)
          · refine gy rfl <| vl mv <| gy rfl <| vl mv <| gy rfl <| ?_
            refine cl Try.call38 rfl (sameInts_c hK (by assumption) (by assumption)) ?_
            rintro _ w ⟨rfl, hK⟩
            refine vl (pk rfl) <| vl (asv (v := .bool _) rfl) <| nl <| thn <| rt <| thr <| p1r (a := .bool _) rfl <| ?_
            exact ⟨by simp, _, _, hK, hG⟩
          · have _ := trivial
            exact absurd rfl h4
        · have hF : LsOk ls ∧ Asc ks ∧ z2 = ks ∧ ∃ N, Whole ls ks N ∧ m2 = (N : Int) := by
            rcases hf1 with h | ⟨_, _, h⟩
            · exact h
            · omega
          obtain ⟨hlo, hka, rfl, N, hW, rfl⟩ := hF
          have hT := hW.told hlo hka
          refine sk <| thn <| sq <| rg <| ?_
          refine vl mv <| vl mv <| ?_
          refine cl Try.call38 rfl (sameInts_c hK (by assumption) (by assumption)) ?_
          rintro _ w ⟨rfl, hK⟩
          refine vl (mvv (v := .bool _) rfl) <| ?_
          refine splP (t := 53) rfl (fun h5 => ?_) (fun h5 => ?_)
          · refine gy rfl <| vl (mvv (v := .int _ _) rfl) <| gy rfl <| vl mv <| gy rfl <| vl (ln Try.underlying42 rfl hv.len) <| gy rfl <| vl (ad rfl rfl (by first | omega | (simp only; omega)) (by first | omega | (simp only; omega))) <| gy rfl <| vl (le rfl rfl) <| vl (pk rfl) <| vl (mvv (v := .bool _) rfl) <| ?_
            refine splP (t := 60) rfl (fun h6 => ?_) (fun h6 => ?_)
            · refine gy rfl <| vl (mvv (v := .int _ _) rfl) <| gy rfl <| vl (ge rfl rfl) <| vl (pk rfl) <| vl (asv (v := .bool _) rfl) <| nl <| thn <| rt <| p1r (a := .bool _) rfl <| ?_
              exact ⟨by rw [decide_eq_true]; omega, _, _, hK, hG⟩
            · have _ := trivial
              exfalso; omega
          · have _ := trivial
            exact absurd rfl h5

theorem FnScanSteps_c (hK : K e w G L) (hc : BytS G cva code) : Ret Try.prog 10 #[cva] w (fun r w' => r = .bool true ∧ ∃ G' L', K e w' G' L' ∧ VLe G G') := by
  refine enter1 (args := [cva]) Try.func10 rfl rfl rfl rfl ?_
  refine sq <| rg <| ?_
  refine vl (asv (v := .bool _) rfl) <| nl <| thn <| sq <| sq <| rg <| vl mv <| vl (ln Try.underlying22 rfl hc.len) <| vl (gt rfl rfl) <| nl <| thn <| ?_
  refine cdP rfl (fun hbig => ?_) (fun hbig => ?_)
  · refine sq <| rg <| ?_
    refine vl (asv (v := .bool _) rfl) <| nl <| thn <| rt <| thr <| p1r (a := .bool _) rfl <| ?_
    exact ⟨rfl, _, _, hK, VLe.refl _⟩
  · refine sk <| thn <| sq <| rg <| ?_
    refine vl mv <| ?_
    refine cl Try.call35 rfl (DrawScanAll_c hK hc) ?_
    rintro _ w ⟨G1, v, ls, u, ks, rfl, hG1, hv, hu, hl, hk, hK⟩
    refine vl mv <| vl (ext rfl rfl) <| vl (ext rfl rfl) <| vl asg <| vl asg <| nl <| thn <| sq <| rg <| vl mv <| vl mv <| ?_
    refine cl Try.call36 rfl (implScanAll_v hK hv hu) ?_
    rintro _ w ⟨G2, t1, z1, m1, rfl, hf1, hG2, ht1, hK⟩
    replace hv := hv.mono hG2
    replace hu := hu.mono hG2
    refine vl mv <| vl (ext rfl rfl) <| vl (ext rfl rfl) <| vl asg <| vl (asv (v := .int _ _) rfl) <| nl <| thn <| sq <| rg <| vl mv <| vl mv <| ?_
    refine cl Try.call37 rfl (specScanAll_v hK hv hu) ?_
    rintro _ w ⟨G3, t2, z2, m2, rfl, hf2, hG3, ht2, hK⟩
    obtain ⟨hz, hm⟩ := hf2.uniq hf1
    subst hz
    subst hm
    replace hv := hv.mono hG3
    replace hu := hu.mono hG3
    replace ht1 := ht1.mono hG3
    have hG := (hG1.trans hG2).trans hG3
    have hle1 := hv.le
    refine vl mv <| vl (ext rfl rfl) <| vl (ext rfl rfl) <| vl asg <| vl (asv (v := .int _ _) rfl) <| nl <| thn <| sq <| sq <| rg <| vl (mvv (v := .int _ _) rfl) <| vl (mvv (v := .int _ _) rfl) <| vl (ne rfl rfl) <| vl (mvv (v := .bool _) rfl) <| ?_
    refine splP (t := 36) rfl (fun h1 => ?_) (fun h1 => ?_)
    · exact absurd rfl h1
    · have _ := trivial
      refine gy rfl <| vl mv <| gy rfl <| vl mv <| gy rfl <| ?_
      refine cl Try.call38 rfl (sameInts_c hK (by assumption) (by assumption)) ?_
      rintro _ w ⟨rfl, hK⟩
      refine gy rfl <| vl (nt rfl) <| vl (pk rfl) <| vl (mvv (v := .bool _) rfl) <| ?_
      refine splP (t := 42) rfl (fun h2 => ?_) (fun h2 => ?_)
      · exact absurd rfl h2
      · have _ := trivial
        refine gy rfl <| vl (mvv (v := .int _ _) rfl) <| gy rfl <| vl (lt rfl rfl) <| vl (pk rfl) <| nl <| thn <| ?_
        refine cdP rfl (fun h3 => ?_) (fun h3 => ?_)
        · refine sq <| rg <| ?_
          refine vl (mvv (v := .int _ _) rfl) <| vl (mvv (v := .int _ _) rfl) <| vl (eq rfl rfl) <| vl (mvv (v := .bool _) rfl) <| ?_
          refine splP (t := 49) rfl (fun h4 => ?_) (fun h4 => ?_)
          · refine gy rfl <| vl mv <| gy rfl <| vl mv <| gy rfl <| ?_
            refine cl Try.call38 rfl (sameInts_c hK (by assumption) (by assumption)) ?_
            rintro _ w ⟨rfl, hK⟩
            refine vl (pk rfl) <| vl (asv (v := .bool _) rfl) <| nl <| thn <| rt <| thr <| p1r (a := .bool _) rfl <| ?_
            exact ⟨by simp, _, _, hK, hG⟩
          · have _ := trivial
            exact absurd rfl h4
        · have hF : LsOk ls ∧ Asc ks ∧ z2 = ks ∧ ∃ N, Whole ls ks N ∧ m2 = (N : Int) := by
            rcases hf1 with h | ⟨_, _, h⟩
            · exact h
            · omega
          obtain ⟨hlo, hka, rfl, N, hW, rfl⟩ := hF
          have hT := hW.told hlo hka
          refine sk <| thn <| sq <| rg <| ?_
          refine vl (bd [] Ty.p33 Ty.i33 rfl trivial rfl) <| ?_
          refine al hK Ty.i33 rfl ?_
          intro b9 w hK
          refine soS hK Ty.i33 0 rfl rfl rfl rfl rfl rfl ?_
          intro w hK
          refine nl <| thn <| sq <| sq <| rg <| vl (asv (v := .int _ _) rfl) <| nl <| thn <| bk <| ?_
          refine lp (σ := Nat × Value × View) (fun s => [(3, v), (4, u), (5, t1), (6, .int .i64 (N : Int)), (9, .pointer (some ⟨b9, 0, none⟩)), (10, .int .i64 (s.1 : Int))]) (fun s w => s.1 ≤ N ∧ VLe G3 s.2.2 ∧ IntS s.2.2 s.2.1 (itr ls z2 s.1).2 ∧ ∃ L', K e w s.2.2 ((b9, row [.int .i64 (itr ls z2 s.1).1, s.2.1] 33) :: L')) (fun s => N - s.1) (0, .slice none 0 0, G3) ⟨rfl, rfl, rfl, rfl, rfl, rfl, trivial⟩ ⟨Nat.zero_le _, VLe.refl _, nil_row, _, hK⟩ ?_
          rintro ⟨i, t4, G4⟩ g w ⟨hi, hG4, ht4, L', hK⟩
          simp only at hi hG4 ht4 hK
          obtain ⟨g1, g2, g3, _⟩ := itr_ok hlo hka i (fun j hj => hW.2 j (by omega))
          replace hv := hv.mono hG4
          replace hu := hu.mono hG4
          replace ht1 := ht1.mono hG4
          have g5 := g1.2.1.len
          refine sq <| sq <| rg <| ?_
          refine vl (mvv (v := .int _ _) rfl) <| vl (mvv (v := .int _ _) rfl) <| vl (lt rfl rfl) <| nl <| thn <| ?_
          refine cdP rfl (fun h5 => ?_) (fun h5 => ?_)
          · have hi' : i < N := by simp only at h5; omega
            have g4 := hW.2 i hi'
            have hgo := scanF_go (s := ((itr ls z2 i).1, (itr ls z2 i).2)) ⟨hlo, hka, g1⟩ (by show (itr ls z2 i).1 ≠ 64; omega)
            refine sk <| thn <| sq <| bk <| sq <| rg <| ?_
            refine vl mv <| vl mv <| vl (lsO hK Ty.a33 Ty.s33 0 rfl rfl rfl) <| ?_
            refine cl Try.call32 rfl (implScanStep_v (n := (itr ls z2 i).1) hK hv hu ht4 (by first | omega | (simp only; omega))) ?_
            rintro _ w ⟨G5, t5, rfl, hG5, ht5, hK⟩
            rw [hgo] at ht5
            rw [hgo]
            refine vl mv <| vl (ext rfl rfl) <| vl (ext rfl rfl) <| ?_
            refine al hK Ty.i33 rfl ?_
            intro b11 w hK
            refine soS hK Ty.i33 0 rfl rfl rfl rfl (allc rfl (allc ht5.1.one rfl)) rfl ?_
            intro w hK
            refine vl (asv (v := .bool _) rfl) <| nl <| thn <| sq <| sq <| rg <| vl (mvv (v := .bool _) rfl) <| vl (ntB rfl) <| nl <| thn <| ?_
            refine cdB rfl (fun h6 => ?_) (fun h6 => ?_)
            · cases h6
            · have _ := trivial
              refine sk <| thn <| rg <| ?_
              refine vl (lsO hK Ty.a33 Ty.s33 0 rfl rfl rfl) <| ?_
              refine soS hK Ty.i33 1 rfl rfl rfl rfl (allc rfl (allc ht5.1.one rfl)) rfl ?_
              intro w hK
              refine nl <| bkn <| thn <| rg <| vl (mvv (v := .int _ _) rfl) <| vl (ad rfl rfl (by first | omega | (simp only; omega)) (by first | omega | (simp only; omega))) <| vl (asv (v := .int _ _) rfl) <| nl <| thn <| ?_
              exact ⟨(i + 1, t5, G5), ⟨rfl, rfl, rfl, rfl, rfl, rfl, trivial⟩, ⟨hi', hG4.trans hG5, ht5, _, hK.drop1⟩, by simp only; omega⟩
          · have hi' : i = N := by simp only at h5; omega
            subst hi'
            refine ex <| the <| the <| bkh <| thn <| sq <| rg <| ?_
            refine vl (lsO hK Ty.a33 Ty.s33 0 rfl rfl rfl) <| ?_
            refine cl Try.call29 rfl (implScanDone_c hK (by assumption)) ?_
            rintro _ w ⟨rfl, hK⟩
            refine vl (mvv (v := .bool _) rfl) <| ?_
            have hend : SnOk (itr ls z2 i) ∧ (itr ls z2 i).1 = 64 := ⟨g1, hW.1⟩
            refine spl (t := 72) rfl (fun h6 => ?_) (fun h6 => ?_)
            · refine gy rfl <| vl (fa Try.underlying33 rfl Ty.z24 rfl) <| gy rfl <| vl (ldO hK Ty.o24 0 rfl rfl rfl) <| gy rfl <| vl mv <| gy rfl <| ?_
              refine cl Try.call38 rfl (sameInts_c hK (by assumption) (by assumption)) ?_
              rintro _ w ⟨rfl, hK⟩
              refine vl (pk rfl) <| vl (asv (v := .bool _) rfl) <| nl <| thn <| rt <| p1r (a := .bool _) rfl <| ?_
              exact ⟨by rw [hT.1]; simp, _, _, hK, hG.trans hG4⟩
            · have _ := trivial
              exact absurd hend (not_dec h6)

end
end Go.Proofs.Ytemeepjdjaabmaa
