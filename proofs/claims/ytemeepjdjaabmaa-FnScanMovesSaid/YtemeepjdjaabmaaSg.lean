/- More laws on scans: what each returns. Conditions: those that each row states. -/
import Derived.Test.YtemeepjdjaabmaaSf
namespace Go.Proofs.Ytemeepjdjaabmaa
open Go Go.Ro

section
variable {e w : World} {G : View} {L A : Own} {cva cvb v u t t2 : Value} {code cod xs ys ks ts us : List Int} {ls : List Ls} {n m : Int}

theorem FnScanValid_c (hK : K e w G L) (hc : BytS G cva code) : Ret Try.prog 4 #[cva] w (fun r w' => r = .bool true ∧ ∃ G' L', K e w' G' L' ∧ VLe G G') := by
  refine enter1 (args := [cva]) Try.func4 rfl rfl rfl rfl ?_
  refine sq <| rg <| ?_
  refine vl (asv (v := .bool _) rfl) <| nl <| thn <| sq <| sq <| rg <| vl mv <| vl (ln Try.underlying22 rfl hc.len) <| vl (gt rfl rfl) <| nl <| thn <| ?_
  refine cdP rfl (fun hbig => ?_) (fun hbig => ?_)
  · refine sq <| rg <| ?_
    refine vl (asv (v := .bool _) rfl) <| nl <| thn <| rt <| thr <| p1r (a := .bool _) rfl <| ?_
    exact ⟨rfl, _, _, hK, VLe.refl _⟩
  · refine sk <| thn <| sq <| rg <| ?_
    refine vl mv <| ?_
    refine cl Try.call22 rfl (DrawScanValid_c hK hc) ?_
    rintro _ w ⟨G1, t, n, zs, rfl, hG, ht, hz, hK⟩
    refine al hK Ty.i33 rfl ?_
    intro b3 w hK
    refine soS hK Ty.i33 0 rfl rfl rfl rfl (allc rfl (allc ht.1.one rfl)) rfl ?_
    intro w hK
    refine nl <| thn <| sq <| rg <| vl (lsO hK Ty.a33 Ty.s33 0 rfl rfl rfl) <| ?_
    refine cl Try.call23 rfl (implScanValid_c hK (by assumption)) ?_
    rintro _ w ⟨rfl, hK⟩
    refine vl (asv (v := .bool _) rfl) <| nl <| thn <| sq <| rg <| vl (lsO hK Ty.a33 Ty.s33 0 rfl rfl rfl) <| ?_
    refine cl Try.call24 rfl (specScanValid_c hK (by assumption)) ?_
    rintro _ w ⟨rfl, hK⟩
    refine vl (asv (v := .bool _) rfl) <| nl <| thn <| sq <| sq <| rg <| vl (mvv (v := .bool _) rfl) <| vl (mvv (v := .bool _) rfl) <| vl (neB Try.underlying4 rfl rfl) <| vl (mvv (v := .bool _) rfl) <| ?_
    refine spl (t := 19) rfl (fun h1 => ?_) (fun h1 => ?_)
    · simp at h1
    · have _ := trivial
      refine gy rfl <| vl (mvv (v := .bool _) rfl) <| gy rfl <| vl (ntB rfl) <| vl (pk rfl) <| nl <| thn <| ?_
      refine cdB rfl (fun h3 => ?_) (fun h3 => ?_)
      · simp at h3
        refine sq <| rg <| ?_
        refine vl (mvv (v := .bool _) rfl) <| vl (mvv (v := .bool _) rfl) <| vl (eqB Try.underlying4 rfl rfl) <| vl (asv (v := .bool _) rfl) <| nl <| thn <| rt <| thr <| p1r (a := .bool _) rfl <| ?_
        exact ⟨by simp, _, _, hK, hG⟩
      · simp at h3
        have h3' := of_dec h3
        have hle := ht.le
        refine sk <| thn <| sq <| sq <| rg <| ?_
        refine vl (asv (v := .int _ _) rfl) <| nl <| thn <| bk <| ?_
        refine lp (σ := Nat) (fun i => [(3, .pointer (some ⟨b3, 0, none⟩)), (6, .int .i64 (i : Int))]) (fun i w => i ≤ zs.length ∧ K e w G1 ((b3, row [.int .i64 n, t] 33) :: L)) (fun i => zs.length - i) 0 ⟨rfl, rfl, trivial⟩ ⟨Nat.zero_le _, hK⟩ ?_
        rintro i g w ⟨hi, hK⟩
        refine sq <| sq <| rg <| ?_
        refine vl (mvv (v := .int _ _) rfl) <| vl (fa Try.underlying33 rfl Ty.z24 rfl) <| vl (ldO hK Ty.o24 0 rfl rfl rfl) <| vl (ln Try.underlying24 rfl ht.len) <| vl (lt rfl rfl) <| nl <| thn <| ?_
        refine cdP rfl (fun hc => ?_) (fun hc => ?_)
        · have hi' : i < zs.length := by omega
          have hp := h3'.2.1.pt hi'
          have hn := h3'.2.2 _ (List.getElem_mem hi')
          simp only at hp hn
          refine sk <| thn <| sq <| bk <| sq <| ?_
          refine rgq (fun w => K _ w _ _) Ty.mixed (by kernel_rfl) (hK.drawn _) ?_
          refine qv (fun w hK => (fa Try.underlying33 rfl Ty.z24 rfl)) <| ?_; refine qldO Ty.o24 0 rfl rfl rfl <| ?_; refine qv (fun w hK => (mvv (v := .int _ _) rfl)) <| ?_; refine qv (fun w hK => (ixn1 Try.underlying24 Ty.s3 rfl ht.1 rfl (by first | omega | (simp only; omega)))) <| ?_; refine qldV Ty.o3 rfl (ht.at (by first | omega | (simp only; omega))) <| ?_; refine qv (fun w hK => (lt rfl rfl)) <| ?_; refine qv (fun w hK => (mvv (v := .bool _) rfl)) <| ?_
          refine qsplP (t := 39) rfl (fun h5 => ?_) (fun h5 => ?_)
          · exfalso; omega
          · have _ := trivial
            refine qgy rfl <| ?_; refine qv (fun w hK => (fa Try.underlying33 rfl Ty.z24 rfl)) <| ?_; refine qgy rfl <| ?_; refine qldO Ty.o24 0 rfl rfl rfl <| ?_; refine qgy rfl <| ?_; refine qv (fun w hK => (mvv (v := .int _ _) rfl)) <| ?_; refine qgy rfl <| ?_; refine qv (fun w hK => (ixn1 Try.underlying24 Ty.s3 rfl ht.1 rfl (by first | omega | (simp only; omega)))) <| ?_; refine qgy rfl <| ?_; refine qldV Ty.o3 rfl (ht.at (by first | omega | (simp only; omega))) <| ?_; refine qgy rfl <| ?_; refine qv (fun w hK => (fa Try.underlying33 rfl Ty.z3 rfl)) <| ?_; refine qgy rfl <| ?_; refine qldO Ty.o3 0 rfl rfl rfl <| ?_; refine qgy rfl <| ?_; refine qv (fun w hK => (ge rfl rfl)) <| ?_; refine qv (fun w hK => (pk rfl)) <| ?_; refine qv (fun w hK => (mvv (v := .bool _) rfl)) <| ?_
            refine qsplP (t := 49) rfl (fun h6 => ?_) (fun h6 => ?_)
            · exfalso; omega
            · have _ := trivial
              refine qgy rfl <| ?_; refine qv (fun w hK => (mvv (v := .int _ _) rfl)) <| ?_; refine qgy rfl <| ?_; refine qv (fun w hK => (gt rfl rfl)) <| ?_; refine qgy rfl <| ?_; refine qv (fun w hK => (mvv (v := .bool _) rfl)) <| ?_
              refine qsplP (t := 52) rfl (fun h7 => ?_) (fun h7 => ?_)
              · have hlt := h3'.2.1.lt hi' (by omega)
                simp only at hlt
                refine qgy rfl <| ?_; refine qv (fun w hK => (fa Try.underlying33 rfl Ty.z24 rfl)) <| ?_; refine qgy rfl <| ?_; refine qldO Ty.o24 0 rfl rfl rfl <| ?_; refine qgy rfl <| ?_; refine qv (fun w hK => (mvv (v := .int _ _) rfl)) <| ?_; refine qgy rfl <| ?_; refine qv (fun w hK => (sb rfl rfl (by first | omega | (simp only; omega)) (by first | omega | (simp only; omega)))) <| ?_; refine qgy rfl <| ?_; refine qv (fun w hK => (ixm1 (m := i - 1) Try.underlying24 Ty.s3 rfl ht.1 rfl (by first | omega | (simp only; omega)) (by first | omega | (simp only; omega)))) <| ?_; refine qgy rfl <| ?_; refine qldV Ty.o3 rfl (ht.at (by first | omega | (simp only; omega))) <| ?_; refine qgy rfl <| ?_; refine qv (fun w hK => (fa Try.underlying33 rfl Ty.z24 rfl)) <| ?_; refine qgy rfl <| ?_; refine qldO Ty.o24 0 rfl rfl rfl <| ?_; refine qgy rfl <| ?_; refine qv (fun w hK => (mvv (v := .int _ _) rfl)) <| ?_; refine qgy rfl <| ?_; refine qv (fun w hK => (ixn1 Try.underlying24 Ty.s3 rfl ht.1 rfl (by first | omega | (simp only; omega)))) <| ?_; refine qgy rfl <| ?_; refine qldV Ty.o3 rfl (ht.at (by first | omega | (simp only; omega))) <| ?_; refine qgy rfl <| ?_; refine qv (fun w hK => (ge rfl rfl)) <| ?_; refine qgy rfl <| ?_; refine qv (fun w hK => (pk rfl)) <| ?_; refine qv (fun w hK => (pk rfl)) <| ?_; refine qn <| ?_
                intro w hK
                refine thn <| ?_
                refine cdP rfl (fun h8 => ?_) (fun h8 => ?_)
                · exfalso; omega
                · have _ := trivial
                  refine sk <| bkn <| thn <| rg <| ?_
                  refine vl (mvv (v := .int _ _) rfl) <| vl (ad rfl rfl (by first | omega | (simp only; omega)) (by first | omega | (simp only; omega))) <| vl (asv (v := .int _ _) rfl) <| nl <| thn <| ?_
                  exact ⟨i + 1, ⟨rfl, rfl, trivial⟩, ⟨hi', hK⟩, by omega⟩
              · refine qgn rfl <| ?_; refine qgn rfl <| ?_; refine qgn rfl <| ?_; refine qgn rfl <| ?_; refine qgn rfl <| ?_; refine qgn rfl <| ?_; refine qgn rfl <| ?_; refine qgn rfl <| ?_; refine qgn rfl <| ?_; refine qgn rfl <| ?_; refine qgn rfl <| ?_; refine qgn rfl <| ?_; refine qgy rfl <| ?_; refine qv (fun w hK => (pk rfl)) <| ?_; refine qv (fun w hK => (pk rfl)) <| ?_; refine qn <| ?_
                intro w hK
                refine thn <| ?_
                refine cdf rfl ?_
                refine sk <| bkn <| thn <| rg <| ?_
                refine vl (mvv (v := .int _ _) rfl) <| vl (ad rfl rfl (by first | omega | (simp only; omega)) (by first | omega | (simp only; omega))) <| vl (asv (v := .int _ _) rfl) <| nl <| thn <| ?_
                exact ⟨i + 1, ⟨rfl, rfl, trivial⟩, ⟨hi', hK⟩, by omega⟩
        · have h9 := h3'.1.2
          refine ex <| the <| the <| bkh <| thn <| sq <| rg <| ?_
          refine vl (fa Try.underlying33 rfl Ty.z3 rfl) <| vl (ldO hK Ty.o3 0 rfl rfl rfl) <| vl (le rfl rfl) <| vl (asv (v := .bool _) rfl) <| nl <| thn <| rt <| p1r (a := .bool _) rfl <| ?_
          exact ⟨by rw [decide_eq_true h9], _, _, hK, hG⟩

theorem FnScanDone_c (hK : K e w G L) (hc : BytS G cva code) (hc2 : BytS G cvb cod) : Ret Try.prog 7 #[cva, cvb] w (fun r w' => r = .bool true ∧ ∃ G' L', K e w' G' L' ∧ VLe G G') := by
  refine enter1 (args := [cva, cvb]) Try.func7 rfl rfl rfl rfl ?_
  refine sq <| rg <| ?_
  refine vl (asv (v := .bool _) rfl) <| nl <| thn <| sq <| sq <| rg <| vl mv <| vl (ln Try.underlying22 rfl hc.len) <| vl (gt rfl rfl) <| vl (mvv (v := .bool _) rfl) <| ?_
  refine splP (t := 14) rfl (fun hb1 => ?_) (fun hb1 => ?_)
  · refine gn rfl <| gn rfl <| gn rfl <| vl (pk rfl) <| nl <| thn <| ?_
    refine cdt rfl ?_
    refine sq <| rg <| ?_
    refine vl (asv (v := .bool _) rfl) <| nl <| thn <| rt <| thr <| p1r (a := .bool _) rfl <| ?_
    exact ⟨rfl, _, _, hK, VLe.refl _⟩
  · refine gy rfl <| vl mv <| gy rfl <| vl (ln Try.underlying22 rfl hc2.len) <| gy rfl <| vl (gt rfl rfl) <| vl (pk rfl) <| nl <| thn <| ?_
    refine cdP rfl (fun hb2 => ?_) (fun hb2 => ?_)
    · refine sq <| rg <| ?_
      refine vl (asv (v := .bool _) rfl) <| nl <| thn <| rt <| thr <| p1r (a := .bool _) rfl <| ?_
      exact ⟨rfl, _, _, hK, VLe.refl _⟩
    · refine sk <| thn <| sq <| rg <| ?_
      refine vl mv <| ?_
      refine cl Try.call30 rfl (DrawScanDone_c hK hc) ?_
      rintro _ w ⟨G1, t, n, zs, rfl, hG, ht, hz, hK⟩
      refine al hK Ty.i33 rfl ?_
      intro b5 w hK
      refine soS hK Ty.i33 0 rfl rfl rfl rfl (allc rfl (allc ht.1.one rfl)) rfl ?_
      intro w hK
      refine nl <| thn <| sq <| rg <| vl (lsO hK Ty.a33 Ty.s33 0 rfl rfl rfl) <| ?_
      refine cl Try.call29 rfl (implScanDone_c hK (by assumption)) ?_
      rintro _ w ⟨rfl, hK⟩
      refine vl (asv (v := .bool _) rfl) <| nl <| thn <| sq <| rg <| vl (lsO hK Ty.a33 Ty.s33 0 rfl rfl rfl) <| ?_
      refine cl Try.call28 rfl (specScanDone_c hK (by assumption)) ?_
      rintro _ w ⟨rfl, hK⟩
      refine vl (asv (v := .bool _) rfl) <| nl <| thn <| sq <| sq <| rg <| vl (mvv (v := .bool _) rfl) <| vl (mvv (v := .bool _) rfl) <| vl (neB Try.underlying4 rfl rfl) <| vl (mvv (v := .bool _) rfl) <| ?_
      refine spl (t := 28) rfl (fun h1 => ?_) (fun h1 => ?_)
      · simp at h1
      · have _ := trivial
        refine gy rfl <| vl (mvv (v := .bool _) rfl) <| gy rfl <| vl (ntB rfl) <| vl (pk rfl) <| nl <| thn <| ?_
        refine cdB rfl (fun h3 => ?_) (fun h3 => ?_)
        · simp at h3
          refine sq <| rg <| ?_
          refine vl (mvv (v := .bool _) rfl) <| vl (mvv (v := .bool _) rfl) <| vl (eqB Try.underlying4 rfl rfl) <| vl (asv (v := .bool _) rfl) <| nl <| thn <| rt <| thr <| p1r (a := .bool _) rfl <| ?_
          exact ⟨by simp, _, _, hK, hG⟩
        · simp at h3
          obtain ⟨h4, h5⟩ := of_dec h3
          subst h5
          refine sk <| thn <| sq <| rg <| ?_
          refine vl mv <| ?_
          refine cl Try.call31 rfl (DrawLeasesValid_c hK (hc2.mono hG)) ?_
          rintro v w ⟨G2, ls, hG2, hv, hl, hK⟩
          refine vl asg <| nl <| thn <| sq <| rg <| vl mv <| ?_
          refine bs0 hK Try.underlying24 Ty.i3 ?_
          intro b39 w hK
          refine vl (lsO hK Ty.a33 Ty.s33 1 rfl rfl rfl) <| ?_
          obtain ⟨G3, hG3, hu, hK⟩ := K.pubO (A := [(b39, _)]) (xs := []) hK OS.none
          replace hv := hv.mono hG3
          replace ht := ht.mono (hG2.trans hG3)
          have hfalse : (scanF ls [] (64, zs)).2 = false := by
            by_cases h : LsOk ls ∧ Asc [] ∧ SnOk (64, zs)
            · rw [scanF_end h rfl]
            · rw [scanF_no h]
          refine cl Try.call32 rfl (implScanStep_v hK hv hu ht (by first | omega | (simp only; omega))) ?_
          rintro _ w ⟨G4, t1, rfl, hG4, ht1, hK⟩
          replace hv := hv.mono hG4
          replace ht := ht.mono hG4
          have hGG := ((hG.trans hG2).trans hG3).trans hG4
          refine vl mv <| vl (ext rfl rfl) <| vl (ext rfl rfl) <| ?_
          refine al hK Ty.i33 rfl ?_
          intro b9 w hK
          refine soS hK Ty.i33 0 rfl rfl rfl rfl (allc rfl (allc ht1.1.one rfl)) rfl ?_
          intro w hK
          refine vl (asv (v := .bool _) rfl) <| nl <| thn <| sq <| rg <| vl (fa Try.underlying33 rfl Ty.z3 rfl) <| vl (ldO hK Ty.o3 1 rfl rfl rfl) <| vl (eq rfl rfl) <| vl (mvv (v := .bool _) rfl) <| ?_
          refine splP (t := 47) rfl (fun h6 => ?_) (fun h6 => ?_)
          · refine gy rfl <| vl (mvv (v := .bool _) rfl) <| gy rfl <| vl (ntB rfl) <| vl (pk rfl) <| vl (mvv (v := .bool _) rfl) <| ?_
            rw [hfalse]
            refine spl (t := 51) rfl (fun h7 => ?_) (fun h7 => ?_)
            · refine gy rfl <| vl mv <| gy rfl <| ?_
              refine cl Try.call33 rfl (implLeasesValid_c hK (by assumption)) ?_
              rintro _ w ⟨rfl, hK⟩
              refine gy rfl <| vl (ntB rfl) <| gy rfl <| vl (mvv (v := .bool _) rfl) <| ?_
              refine spl (t := 55) rfl (fun h8 => ?_) (fun h8 => ?_)
              · refine gn rfl <| gn rfl <| gn rfl <| gy rfl <| vl (pk rfl) <| vl (pk rfl) <| vl (asv (v := .bool _) rfl) <| nl <| thn <| rt <| p1r (a := .bool _) rfl <| ?_
                exact ⟨rfl, _, _, hK, hGG⟩
              · simp at h8
                have h8' := of_dec h8
                have he := scanF_end (s := (64, zs)) ⟨h8', Asc.nil, h4⟩ rfl
                rw [he] at ht1
                refine gy rfl <| vl (lsO hK Ty.a33 Ty.s33 0 rfl rfl rfl) <| gy rfl <| vl (lsO hK Ty.a33 Ty.s33 1 rfl rfl rfl) <| gy rfl <| ?_
                refine cl Try.call34 rfl (sameScan_c hK (by assumption) (by assumption)) ?_
                rintro _ w ⟨rfl, hK⟩
                refine gy rfl <| vl (pk rfl) <| vl (pk rfl) <| vl (asv (v := .bool _) rfl) <| nl <| thn <| rt <| p1r (a := .bool _) rfl <| ?_
                exact ⟨by rw [he]; simp, _, _, hK, hGG⟩
            · simp at h7
          · exact absurd rfl h6

set_option maxHeartbeats 1000000 in theorem FnScanMoves_c (hK : K e w G L) (hc : BytS G cva code) (hc2 : BytS G cvb cod) : Ret Try.prog 14 #[cva, cvb] w (fun r w' => r = .bool true ∧ ∃ G' L', K e w' G' L' ∧ VLe G G') := by
  refine enter1 (args := [cva, cvb]) Try.func14 rfl rfl rfl rfl ?_
  refine sq <| rg <| ?_
  refine vl (asv (v := .bool _) rfl) <| nl <| thn <| sq <| sq <| rg <| vl mv <| vl (ln Try.underlying22 rfl hc.len) <| vl (gt rfl rfl) <| vl (mvv (v := .bool _) rfl) <| ?_
  refine splP (t := 24) rfl (fun hb1 => ?_) (fun hb1 => ?_)
  · refine gn rfl <| gn rfl <| gn rfl <| vl (pk rfl) <| nl <| thn <| ?_
    refine cdt rfl ?_
    refine sq <| rg <| ?_
    refine vl (asv (v := .bool _) rfl) <| nl <| thn <| rt <| thr <| p1r (a := .bool _) rfl <| ?_
    exact ⟨rfl, _, _, hK, VLe.refl _⟩
  · refine gy rfl <| vl mv <| gy rfl <| vl (ln Try.underlying22 rfl hc2.len) <| gy rfl <| vl (gt rfl rfl) <| vl (pk rfl) <| nl <| thn <| ?_
    refine cdP rfl (fun hb2 => ?_) (fun hb2 => ?_)
    · refine sq <| rg <| ?_
      refine vl (asv (v := .bool _) rfl) <| nl <| thn <| rt <| thr <| p1r (a := .bool _) rfl <| ?_
      exact ⟨rfl, _, _, hK, VLe.refl _⟩
    · refine sk <| thn <| sq <| rg <| ?_
      refine vl mv <| ?_
      refine cl Try.call47 rfl (DrawScanStep_c hK hc) ?_
      rintro _ w ⟨G1, v, ls, u, ks, t, n, zs, rfl, hG1, hv, hu, ht, hl, hk, hk0, hz, hK⟩
      refine vl mv <| vl (ext rfl rfl) <| vl (ext rfl rfl) <| vl (ext rfl rfl) <| ?_
      refine al hK Ty.i33 rfl ?_
      intro b7 w hK
      refine vl asg <| vl asg <| ?_
      refine soS hK Ty.i33 0 rfl rfl rfl rfl (allc rfl (allc ht.1.one rfl)) rfl ?_
      intro w hK
      refine nl <| thn <| sq <| rg <| vl mv <| vl mv <| vl (lsO hK Ty.a33 Ty.s33 0 rfl rfl rfl) <| ?_
      refine cl Try.call32 rfl (implScanStep_v hK hv hu ht (by first | omega | (simp only; omega))) ?_
      rintro _ w ⟨G2, t1, rfl, hG2, ht1, hK⟩
      replace hv := hv.mono hG2
      replace hu := hu.mono hG2
      replace ht := ht.mono hG2
      refine vl mv <| vl (ext rfl rfl) <| vl (ext rfl rfl) <| ?_
      refine al hK Ty.i33 rfl ?_
      intro b8 w hK
      refine soS hK Ty.i33 0 rfl rfl rfl rfl (allc rfl (allc ht1.1.one rfl)) rfl ?_
      intro w hK
      refine vl (asv (v := .bool _) rfl) <| nl <| thn <| sq <| rg <| vl mv <| vl mv <| vl (lsO hK Ty.a33 Ty.s33 1 rfl rfl rfl) <| ?_
      refine cl Try.call48 rfl (specScanStep_v hK hv hu ht (by first | omega | (simp only; omega))) ?_
      rintro _ w ⟨G3, t2, rfl, hG3, ht2, hK⟩
      replace hv := hv.mono hG3
      replace hu := hu.mono hG3
      replace ht := ht.mono hG3
      replace ht1 := ht1.mono hG3
      have hG := (hG1.trans hG2).trans hG3
      refine vl mv <| vl (ext rfl rfl) <| vl (ext rfl rfl) <| ?_
      refine al hK Ty.i33 rfl ?_
      intro b10 w hK
      refine soS hK Ty.i33 0 rfl rfl rfl rfl (allc rfl (allc ht2.1.one rfl)) rfl ?_
      intro w hK
      refine vl (asv (v := .bool _) rfl) <| nl <| thn <| sq <| sq <| rg <| vl (mvv (v := .bool _) rfl) <| vl (mvv (v := .bool _) rfl) <| vl (neB Try.underlying4 rfl rfl) <| vl (mvv (v := .bool _) rfl) <| ?_
      refine spl (t := 52) rfl (fun h1 => ?_) (fun h1 => ?_)
      · simp at h1
      · have _ := trivial
        refine gy rfl <| vl (lsO hK Ty.a33 Ty.s33 1 rfl rfl rfl) <| gy rfl <| vl (lsO hK Ty.a33 Ty.s33 0 rfl rfl rfl) <| gy rfl <| ?_
        refine cl Try.call34 rfl (sameScan_c hK (by assumption) (by assumption)) ?_
        rintro _ w ⟨rfl, hK⟩
        refine gy rfl <| vl (nt rfl) <| vl (pk rfl) <| vl (mvv (v := .bool _) rfl) <| ?_
        refine splP (t := 58) rfl (fun h2 => ?_) (fun h2 => ?_)
        · exact absurd ⟨rfl, rfl⟩ h2
        · have _ := trivial
          refine gy rfl <| vl mv <| gy rfl <| ?_
          refine cl Try.call50 rfl (specLeasesValid_c hK (by assumption)) ?_
          rintro _ w ⟨rfl, hK⟩
          refine gy rfl <| vl (ntB rfl) <| vl (pk rfl) <| vl (mvv (v := .bool _) rfl) <| ?_
          refine spl (t := 63) rfl (fun h3 => ?_) (fun h3 => ?_)
          · simp at h3
            have hno := scanF_no (s := (n, zs)) (ks := ks) (fun h => not_dec h3 h.1)
            rw [hno] at ht1 ht2 hK
            rw [hno]
            refine gn rfl <| gn rfl <| vl (pk rfl) <| nl <| thn <| ?_
            refine cdt rfl ?_
            refine sq <| rg <| ?_
            refine vl (mvv (v := .bool _) rfl) <| vl (mvv (v := .bool _) rfl) <| vl (eqB Try.underlying4 rfl rfl) <| vl (mvv (v := .bool _) rfl) <| ?_
            refine spl (t := 70) rfl (fun h4 => ?_) (fun h4 => ?_)
            · refine gy rfl <| vl (lsO hK Ty.a33 Ty.s33 1 rfl rfl rfl) <| gy rfl <| vl (lsO hK Ty.a33 Ty.s33 0 rfl rfl rfl) <| gy rfl <| ?_
              refine cl Try.call34 rfl (sameScan_c hK (by assumption) (by assumption)) ?_
              rintro _ w ⟨rfl, hK⟩
              refine vl (pk rfl) <| vl (asv (v := .bool _) rfl) <| nl <| thn <| rt <| thr <| p1r (a := .bool _) rfl <| ?_
              exact ⟨by simp, _, _, hK, hG⟩
            · have _ := trivial
              simp at h4
          · refine gy rfl <| vl (mvv (v := .bool _) rfl) <| gy rfl <| vl (ntB rfl) <| vl (pk rfl) <| nl <| thn <| ?_
            refine cdB rfl (fun h5 => ?_) (fun h5 => ?_)
            · refine sq <| rg <| ?_
              refine vl (mvv (v := .bool _) rfl) <| vl (mvv (v := .bool _) rfl) <| vl (eqB Try.underlying4 rfl rfl) <| vl (mvv (v := .bool _) rfl) <| ?_
              refine spl (t := 70) rfl (fun h6 => ?_) (fun h6 => ?_)
              · refine gy rfl <| vl (lsO hK Ty.a33 Ty.s33 1 rfl rfl rfl) <| gy rfl <| vl (lsO hK Ty.a33 Ty.s33 0 rfl rfl rfl) <| gy rfl <| ?_
                refine cl Try.call34 rfl (sameScan_c hK (by assumption) (by assumption)) ?_
                rintro _ w ⟨rfl, hK⟩
                refine vl (pk rfl) <| vl (asv (v := .bool _) rfl) <| nl <| thn <| rt <| thr <| p1r (a := .bool _) rfl <| ?_
                exact ⟨by simp, _, _, hK, hG⟩
              · have _ := trivial
                simp at h6
            · simp at h5
              obtain ⟨hok, hn, hst, hso⟩ := scanF_ok h5
              refine sk <| thn <| sq <| rg <| ?_
              refine vl mv <| ?_
              refine cl Try.call47 rfl (DrawScanStep_c hK (hc2.mono hG)) ?_
              rintro _ w ⟨G4, v2, ls2, u2, ms, t3, n2, zs2, rfl, hG4, hv2, hu2, ht3, hl2, hk2, hk02, hz2, hK⟩
              replace hv := hv.mono hG4
              replace hu := hu.mono hG4
              have hGG := hG.trans hG4
              have hule := hu2.le
              refine vl mv <| vl (ext rfl rfl) <| vl (ext rfl rfl) <| vl (ext rfl rfl) <| ?_
              refine al hK Ty.i33 rfl ?_
              intro b14 w hK
              refine vl asg <| vl asg <| ?_
              refine soS hK Ty.i33 0 rfl rfl rfl rfl (allc rfl (allc ht3.1.one rfl)) rfl ?_
              intro w hK
              refine nl <| thn <| sq <| sq <| ?_
              refine ct (σ := Bool) (fun b => [(5, v), (6, u), (12, v2), (13, u2), (98, .bool b)]) (fun b w => (b = false → LsOk ls2 ∧ ∀ h : 0 < ms.length, Pt (ms[ms.length - 1]'(by first | omega | (simp only; omega)))) ∧ ∃ L', K e w G4 L') ?_ ?_
              · refine rg <| ?_
                refine vl mv <| ?_
                refine cl Try.call33 rfl (implLeasesValid_c hK (by assumption)) ?_
                rintro _ w ⟨rfl, hK⟩
                refine vl (ntB rfl) <| vl (mvv (v := .bool _) rfl) <| ?_
                refine spl (t := 84) rfl (fun h7 => ?_) (fun h7 => ?_)
                · refine gn rfl <| gn rfl <| gn rfl <| gn rfl <| gu rfl <| gu rfl <| gu rfl <| gu rfl <| gu rfl <| gu rfl <| gu rfl <| gu rfl <| gn rfl <| vl (pk rfl) <| nl <| ctn <| ?_
                  exact ⟨true, ⟨rfl, rfl, rfl, rfl, rfl, trivial⟩, ⟨fun h => (by cases h), _, hK⟩⟩
                · simp at h7
                  have hlo2 := of_dec h7
                  refine gy rfl <| vl mv <| gy rfl <| vl (ln Try.underlying24 rfl hu2.len) <| gy rfl <| vl (gt rfl rfl) <| gy rfl <| vl (mvv (v := .bool _) rfl) <| ?_
                  refine splP (t := 88) rfl (fun h8 => ?_) (fun h8 => ?_)
                  · refine gy rfl <| vl mv <| gy rfl <| vl mv <| gy rfl <| vl (ln Try.underlying24 rfl hu2.len) <| gy rfl <| vl (sb rfl rfl (by first | omega | (simp only; omega)) (by first | omega | (simp only; omega))) <| gy rfl <| vl (ixm1 (m := ms.length - 1) Try.underlying24 Ty.s3 rfl hu2.1 rfl (by first | omega | (simp only; omega)) (by first | omega | (simp only; omega))) <| gy rfl <| vl (ldV hK Ty.o3 rfl (hu2.at (by first | omega | (simp only; omega)))) <| gy rfl <| ?_
                    refine cl Try.call51 rfl (isPoint_c (C := fun w => K _ w _ _) hK) ?_
                    rintro _ w ⟨rfl, hK⟩
                    refine gy rfl <| vl (nt rfl) <| gy rfl <| vl (pk rfl) <| vl (pk rfl) <| nl <| ctn <| ?_
                    exact ⟨_, ⟨rfl, rfl, rfl, rfl, rfl, trivial⟩, ⟨fun h => ⟨hlo2, fun _ => Decidable.not_not.1 (of_decide_eq_false h)⟩, _, hK⟩⟩
                  · refine gn rfl <| gn rfl <| gn rfl <| gn rfl <| gn rfl <| gn rfl <| gn rfl <| gn rfl <| gy rfl <| vl (pk rfl) <| vl (pk rfl) <| nl <| ctn <| ?_
                    exact ⟨_, ⟨rfl, rfl, rfl, rfl, rfl, trivial⟩, ⟨fun h => ⟨hlo2, fun h' => absurd h' (by omega)⟩, _, hK⟩⟩
              · rintro b g w ⟨hb, L1, hK⟩
                refine thn <| ?_
                refine cdB rfl (fun h7 => ?_) (fun h7 => ?_)
                · refine sq <| rg <| ?_
                  refine vl (asv (v := .bool _) rfl) <| nl <| thn <| rt <| thr <| p1r (a := .bool _) rfl <| ?_
                  exact ⟨rfl, _, _, hK, hGG⟩
                · obtain ⟨hlo2, hlast⟩ := hb (by simpa using h7)
                  refine sk <| thn <| sq <| sq <| rg <| ?_
                  refine vl (asv (v := .int _ _) rfl) <| nl <| thn <| bk <| ?_
                  refine lp (σ := Nat) (fun i => [(5, v), (6, u), (12, v2), (13, u2), (15, .int .i64 ((i : Int) + 1))]) (fun i w => i ≤ ms.length ∧ (ms.take (i + 1)).Pairwise (fun a b => id a < id b) ∧ ∃ L', K e w G4 L') (fun i => ms.length - i) 0 ⟨rfl, rfl, rfl, rfl, rfl, trivial⟩ ⟨Nat.zero_le _, List.pairwise_iff_getElem.2 (fun a b ha hb hab => by rw [List.length_take] at hb; omega), _, hK⟩ ?_
                  rintro i g w ⟨hi, hp, L2, hK⟩
                  refine sq <| sq <| rg <| ?_
                  refine vl (mvv (v := .int _ _) rfl) <| vl mv <| vl (ln Try.underlying24 rfl hu2.len) <| vl (lt rfl rfl) <| nl <| thn <| ?_
                  refine cdP rfl (fun hc => ?_) (fun hc => ?_)
                  · have hi' : i + 1 < ms.length := by omega
                    refine sk <| thn <| sq <| bk <| sq <| ?_
                    refine rgq (fun w => K _ w _ _) Ty.mixed (by kernel_rfl) (hK.drawn _) ?_
                    refine qv (fun w hK => mv) <| ?_; refine qv (fun w hK => (mvv (v := .int _ _) rfl)) <| ?_; refine qv (fun w hK => (sb rfl rfl (by first | omega | (simp only; omega)) (by first | omega | (simp only; omega)))) <| ?_; refine qv (fun w hK => (ixm1 (m := i) Try.underlying24 Ty.s3 rfl hu2.1 rfl (by first | omega | (simp only; omega)) (by first | omega | (simp only; omega)))) <| ?_; refine qldV Ty.o3 rfl (hu2.at (by first | omega | (simp only; omega))) <| ?_; refine qv (fun w hK => mv) <| ?_; refine qv (fun w hK => (mvv (v := .int _ _) rfl)) <| ?_; refine qv (fun w hK => (ixm1 (m := i + 1) Try.underlying24 Ty.s3 rfl hu2.1 rfl (by first | omega | (simp only; omega)) (by first | omega | (simp only; omega)))) <| ?_; refine qldV Ty.o3 rfl (hu2.at (by first | omega | (simp only; omega))) <| ?_; refine qv (fun w hK => (ge rfl rfl)) <| ?_; refine qn <| ?_
                    intro w hK
                    refine thn <| ?_
                    refine cdP rfl (fun h8 => ?_) (fun h8 => ?_)
                    · refine sq <| rg <| ?_
                      refine vl (asv (v := .bool _) rfl) <| nl <| thn <| rt <| bkr <| thr <| thr <| bkr <| thr <| p1r (a := .bool _) rfl <| ?_
                      exact ⟨rfl, _, _, hK, hGG⟩
                    · refine sk <| bkn <| thn <| rg <| ?_
                      refine vl (mvv (v := .int _ _) rfl) <| vl (ad rfl rfl (by first | omega | (simp only; omega)) (by first | omega | (simp only; omega))) <| vl (asv (v := .int _ _) rfl) <| nl <| thn <| ?_
                      refine ⟨i + 1, ⟨rfl, rfl, rfl, rfl, ?_, trivial⟩, ⟨by omega, pw_snoc (key := id) hi' hp (fun _ => by simp only [Nat.add_sub_cancel, id]; omega), _, hK⟩, by omega⟩
                      show Value.int .i64 ((i : Int) + 1 + 1) = Value.int .i64 (((i + 1 : Nat) : Int) + 1)
                      congr 1
                  · rw [List.take_of_length_le (by omega)] at hp
                    have hms : Asc ms := Asc.of hk02 hlast hp
                    refine ex <| the <| the <| bkh <| thn <| sq <| rg <| ?_
                    refine vl (bd [] Ty.p33 Ty.i33 rfl trivial rfl) <| ?_
                    refine al hK Ty.i33 rfl ?_
                    intro b16 w hK
                    refine soS hK Ty.i33 0 rfl rfl rfl rfl rfl rfl ?_
                    intro w hK
                    refine nl <| thn <| sq <| sq <| rg <| vl (asv (v := .int _ _) rfl) <| nl <| thn <| bk <| ?_
                    refine lp (σ := Nat × Int × Value × List Int × View) (fun s => [(5, v), (6, u), (12, v2), (13, u2), (16, .pointer (some ⟨b16, 0, none⟩)), (17, .int .i64 (s.1 : Int))]) (fun s w => s.1 ≤ 70 ∧ Mv ks ms s.1 (s.2.1, s.2.2.2.1) ∧ VLe G4 s.2.2.2.2 ∧ IntS s.2.2.2.2 s.2.2.1 s.2.2.2.1 ∧ ∃ L', K e w s.2.2.2.2 ((b16, row [.int .i64 s.2.1, s.2.2.1] 33) :: L')) (fun s => 70 - s.1) (0, 0, .slice none 0 0, [], G4) ⟨rfl, rfl, rfl, rfl, rfl, rfl, trivial⟩ ⟨Nat.zero_le _, Mv.zero hok.2.1, VLe.refl _, nil_row, _, hK⟩ ?_
                    rintro ⟨i, x, t5, ts, G5⟩ g w ⟨hi5, hM, hG5, ht5, L3, hK⟩
                    simp only at hi5 hM hG5 ht5 hK
                    replace hv := hv.mono hG5
                    replace hu := hu.mono hG5
                    replace hv2 := hv2.mono hG5
                    replace hu2 := hu2.mono hG5
                    have hsl := hM.1.2.1.len
                    have hb := hM.2.1
                    have hb2 := hM.1.1
                    simp only at hsl hb hb2
                    refine sq <| sq <| rg <| ?_
                    refine vl (mvv (v := .int _ _) rfl) <| vl (lt rfl rfl) <| vl (mvv (v := .bool _) rfl) <| ?_
                    refine splP (t := 118) rfl (fun h9 => ?_) (fun h9 => ?_)
                    · refine gy rfl <| vl (lsO hK Ty.a33 Ty.s33 0 rfl rfl rfl) <| gy rfl <| ?_
                      refine cl Try.call29 rfl (implScanDone_c hK (by assumption)) ?_
                      rintro _ w ⟨rfl, hK⟩
                      refine gy rfl <| vl (ntB rfl) <| vl (pk rfl) <| nl <| thn <| ?_
                      refine cdB rfl (fun h10 => ?_) (fun h10 => ?_)
                      · simp at h10
                        have hx : x < 64 := by
                          have := not_dec h10
                          have h11 : x ≠ 64 := fun h => this ⟨hM.1, h⟩
                          omega
                        have hgo := scanF_go (s := (x, ts)) ⟨hok.1, hok.2.1, hM.1⟩ (by show x ≠ 64; omega)
                        have hgo2 := scanF_go (s := (x, ts)) ⟨hlo2, hms, hM.1⟩ (by show x ≠ 64; omega)
                        refine sk <| thn <| sq <| bk <| sq <| rg <| ?_
                        refine vl mv <| vl mv <| vl (lsO hK Ty.a33 Ty.s33 0 rfl rfl rfl) <| ?_
                        refine cl Try.call32 rfl (implScanStep_v (n := x) hK hv hu ht5 (by first | omega | (simp only; omega))) ?_
                        rintro _ w ⟨G6, t6, rfl, hG6, ht6, hK⟩
                        rw [hgo] at ht6
                        rw [hgo]
                        replace hv2 := hv2.mono hG6
                        replace hu2 := hu2.mono hG6
                        replace ht5 := ht5.mono hG6
                        refine vl mv <| vl (ext rfl rfl) <| vl (ext rfl rfl) <| ?_
                        refine al hK Ty.i33 rfl ?_
                        intro b18 w hK
                        refine soS hK Ty.i33 0 rfl rfl rfl rfl (allc rfl (allc ht6.1.one rfl)) rfl ?_
                        intro w hK
                        refine vl (asv (v := .bool _) rfl) <| nl <| thn <| sq <| sq <| rg <| vl (mvv (v := .int _ _) rfl) <| vl (rm rfl rfl (by first | omega | (simp only; omega)) (by first | omega | (simp only; omega))) <| vl (eq rfl rfl) <| nl <| thn <| ?_
                        refine cdP rfl (fun h12 => ?_) (fun h12 => ?_)
                        · refine rg <| ?_
                          refine vl mv <| vl mv <| vl (lsO hK Ty.a33 Ty.s33 1 rfl rfl rfl) <| ?_
                          refine cl Try.call32 rfl (implScanStep_v (n := x) hK hv2 hu2 ht5 (by first | omega | (simp only; omega))) ?_
                          rintro _ w ⟨G7, t7, rfl, hG7, ht7, hK⟩
                          rw [hgo2] at ht7
                          rw [hgo2]
                          refine vl mv <| vl (ext rfl rfl) <| vl (ext rfl rfl) <| ?_
                          refine soS hK Ty.i33 0 rfl rfl rfl rfl (allc rfl (allc ht7.1.one rfl)) rfl ?_
                          intro w hK
                          refine vl (asv (v := .bool _) rfl) <| nl <| thn <| sq <| sq <| rg <| vl (mvv (v := .bool _) rfl) <| vl (ntB rfl) <| nl <| thn <| ?_
                          refine cdB rfl (fun h13 => ?_) (fun h13 => ?_)
                          · cases h13
                          · have _ := trivial
                            refine sk <| thn <| rg <| ?_
                            refine vl (lsO hK Ty.a33 Ty.s33 0 rfl rfl rfl) <| ?_
                            refine soS hK Ty.i33 1 rfl rfl rfl rfl (allc rfl (allc ht7.1.one rfl)) rfl ?_
                            intro w hK
                            refine nl <| bkn <| thn <| rg <| vl (mvv (v := .int _ _) rfl) <| vl (ad rfl rfl (by first | omega | (simp only; omega)) (by first | omega | (simp only; omega))) <| vl (asv (v := .int _ _) rfl) <| nl <| thn <| ?_
                            exact ⟨(i + 1, _, t7, _, G7), ⟨rfl, rfl, rfl, rfl, rfl, rfl, trivial⟩, ⟨by simp only; omega, hM.step hlo2 hms hx (.inr rfl), (hG5.trans hG6).trans hG7, ht7, _, hK.drop1⟩, by simp only; omega⟩
                        · skip
                          refine sk <| thn <| sq <| sq <| rg <| ?_
                          refine vl (mvv (v := .bool _) rfl) <| vl (ntB rfl) <| nl <| thn <| ?_
                          refine cdB rfl (fun h13 => ?_) (fun h13 => ?_)
                          · cases h13
                          · have _ := trivial
                            refine sk <| thn <| rg <| ?_
                            refine vl (lsO hK Ty.a33 Ty.s33 0 rfl rfl rfl) <| ?_
                            refine soS hK Ty.i33 1 rfl rfl rfl rfl (allc rfl (allc ht6.1.one rfl)) rfl ?_
                            intro w hK
                            refine nl <| bkn <| thn <| rg <| vl (mvv (v := .int _ _) rfl) <| vl (ad rfl rfl (by first | omega | (simp only; omega)) (by first | omega | (simp only; omega))) <| vl (asv (v := .int _ _) rfl) <| nl <| thn <| ?_
                            exact ⟨(i + 1, _, t6, _, G6), ⟨rfl, rfl, rfl, rfl, rfl, rfl, trivial⟩, ⟨by simp only; omega, hM.step hok.1 hok.2.1 hx (.inl rfl), hG5.trans hG6, ht6, _, hK.drop1⟩, by simp only; omega⟩
                      · simp at h10
                        have hx := (of_dec h10).2
                        subst hx
                        refine ex <| the <| the <| bkh <| thn <| sq <| sq <| rg <| ?_
                        refine vl (asv (v := .int _ _) rfl) <| nl <| thn <| bk <| ?_
                        have hA := hM.2.2.2
                        have hB := hM.2.2.1
                        simp only at hA hB
                        refine lp (σ := Nat) (fun j => [(6, u), (13, u2), (16, .pointer (some ⟨b16, 0, none⟩)), (20, .int .i64 (j : Int))]) (fun j w => j ≤ 64 ∧ ∃ L', K e w G5 ((b16, row [.int .i64 64, t5] 33) :: L')) (fun j => 64 - j) 0 ⟨rfl, rfl, rfl, rfl, trivial⟩ ⟨Nat.zero_le _, _, hK⟩ ?_
                        rintro j g w ⟨hj, L4, hK⟩
                        refine sq <| sq <| rg <| ?_
                        refine vl (mvv (v := .int _ _) rfl) <| vl (lt rfl rfl) <| nl <| thn <| ?_
                        refine cdP rfl (fun hc => ?_) (fun hc => ?_)
                        · have hj' : (j : Int) < 64 := by omega
                          have hAj := hA j hj'
                          have hBj := hB j
                          refine sk <| thn <| sq <| bk <| sq <| rg <| ?_
                          refine vl mv <| vl (mvv (v := .int _ _) rfl) <| ?_
                          refine cl Try.call20 rfl (hasInt_c hK (by assumption)) ?_
                          rintro _ w ⟨rfl, hK⟩
                          refine vl (mvv (v := .bool _) rfl) <| ?_
                          refine splP (t := 152) rfl (fun q1 => ?_) (fun q1 => ?_)
                          · refine gy rfl <| vl mv <| gy rfl <| vl (mvv (v := .int _ _) rfl) <| gy rfl <| ?_
                            refine cl Try.call20 rfl (hasInt_c hK (by assumption)) ?_
                            rintro _ w ⟨rfl, hK⟩
                            refine vl (pk rfl) <| vl (mvv (v := .bool _) rfl) <| ?_
                            refine splP (t := 157) rfl (fun q2 => ?_) (fun q2 => ?_)
                            · refine gy rfl <| vl (fa Try.underlying33 rfl Ty.z24 rfl) <| gy rfl <| vl (ldO hK Ty.o24 0 rfl rfl rfl) <| gy rfl <| vl (mvv (v := .int _ _) rfl) <| gy rfl <| ?_
                              refine cl Try.call20 rfl (hasInt_c hK (by assumption)) ?_
                              rintro _ w ⟨rfl, hK⟩
                              refine gy rfl <| vl (nt rfl) <| vl (pk rfl) <| vl (mvv (v := .bool _) rfl) <| ?_
                              refine splP (t := 164) rfl (fun q3 => ?_) (fun q3 => ?_)
                              · have _ := trivial
                                exact absurd (hAj q1 q2) q3
                              · refine gy rfl <| vl (fa Try.underlying33 rfl Ty.z24 rfl) <| gy rfl <| vl (ldO hK Ty.o24 0 rfl rfl rfl) <| gy rfl <| vl (mvv (v := .int _ _) rfl) <| gy rfl <| ?_
                                refine cl Try.call20 rfl (hasInt_c hK (by assumption)) ?_
                                rintro _ w ⟨rfl, hK⟩
                                refine gy rfl <| vl (mvv (v := .bool _) rfl) <| ?_
                                refine splP (t := 169) rfl (fun q4 => ?_) (fun q4 => ?_)
                                · refine gy rfl <| vl mv <| gy rfl <| vl (mvv (v := .int _ _) rfl) <| gy rfl <| ?_
                                  refine cl Try.call20 rfl (hasInt_c hK (by assumption)) ?_
                                  rintro _ w ⟨rfl, hK⟩
                                  refine gy rfl <| vl (nt rfl) <| gy rfl <| vl (pk rfl) <| gy rfl <| vl (mvv (v := .bool _) rfl) <| ?_
                                  refine splP (t := 175) rfl (fun q5 => ?_) (fun q5 => ?_)
                                  · have _ := trivial
                                    exact absurd q1 q5
                                  · refine gn rfl <| gn rfl <| gn rfl <| gn rfl <| gy rfl <| vl (pk rfl) <| vl (pk rfl) <| nl <| thn <| ?_
                                    refine cdf rfl ?_
                                    refine sk <| bkn <| thn <| rg <| ?_
                                    refine vl (mvv (v := .int _ _) rfl) <| vl (ad rfl rfl (by first | omega | (simp only; omega)) (by first | omega | (simp only; omega))) <| vl (asv (v := .int _ _) rfl) <| nl <| thn <| ?_
                                    exact ⟨j + 1, ⟨rfl, rfl, rfl, rfl, trivial⟩, ⟨by omega, _, hK⟩, by omega⟩
                                · have _ := trivial
                                  exact absurd (Decidable.not_not.1 q3) q4
                            · refine gn rfl <| gn rfl <| gn rfl <| gn rfl <| gn rfl <| vl (pk rfl) <| vl (mvv (v := .bool _) rfl) <| gy rfl <| vl (fa Try.underlying33 rfl Ty.z24 rfl) <| gy rfl <| vl (ldO hK Ty.o24 0 rfl rfl rfl) <| gy rfl <| vl (mvv (v := .int _ _) rfl) <| gy rfl <| ?_
                              refine cl Try.call20 rfl (hasInt_c hK (by assumption)) ?_
                              rintro _ w ⟨rfl, hK⟩
                              refine gy rfl <| vl (mvv (v := .bool _) rfl) <| ?_
                              refine splP (t := 169) rfl (fun q4 => ?_) (fun q4 => ?_)
                              · refine gy rfl <| vl mv <| gy rfl <| vl (mvv (v := .int _ _) rfl) <| gy rfl <| ?_
                                refine cl Try.call20 rfl (hasInt_c hK (by assumption)) ?_
                                rintro _ w ⟨rfl, hK⟩
                                refine gy rfl <| vl (nt rfl) <| gy rfl <| vl (pk rfl) <| gy rfl <| vl (mvv (v := .bool _) rfl) <| ?_
                                refine splP (t := 175) rfl (fun q5 => ?_) (fun q5 => ?_)
                                · have _ := trivial
                                  exact absurd q1 q5
                                · refine gn rfl <| gn rfl <| gn rfl <| gn rfl <| gy rfl <| vl (pk rfl) <| vl (pk rfl) <| nl <| thn <| ?_
                                  refine cdf rfl ?_
                                  refine sk <| bkn <| thn <| rg <| ?_
                                  refine vl (mvv (v := .int _ _) rfl) <| vl (ad rfl rfl (by first | omega | (simp only; omega)) (by first | omega | (simp only; omega))) <| vl (asv (v := .int _ _) rfl) <| nl <| thn <| ?_
                                  exact ⟨j + 1, ⟨rfl, rfl, rfl, rfl, trivial⟩, ⟨by omega, _, hK⟩, by omega⟩
                              · refine gn rfl <| gn rfl <| gn rfl <| gn rfl <| gy rfl <| vl (pk rfl) <| gy rfl <| vl (mvv (v := .bool _) rfl) <| gn rfl <| gn rfl <| gn rfl <| gn rfl <| gy rfl <| vl (pk rfl) <| vl (pk rfl) <| nl <| thn <| ?_
                                refine cdf rfl ?_
                                refine sk <| bkn <| thn <| rg <| ?_
                                refine vl (mvv (v := .int _ _) rfl) <| vl (ad rfl rfl (by first | omega | (simp only; omega)) (by first | omega | (simp only; omega))) <| vl (asv (v := .int _ _) rfl) <| nl <| thn <| ?_
                                exact ⟨j + 1, ⟨rfl, rfl, rfl, rfl, trivial⟩, ⟨by omega, _, hK⟩, by omega⟩
                          · refine gn rfl <| gn rfl <| gn rfl <| vl (pk rfl) <| vl (mvv (v := .bool _) rfl) <| gn rfl <| gn rfl <| gn rfl <| gn rfl <| gn rfl <| vl (pk rfl) <| vl (mvv (v := .bool _) rfl) <| gy rfl <| vl (fa Try.underlying33 rfl Ty.z24 rfl) <| gy rfl <| vl (ldO hK Ty.o24 0 rfl rfl rfl) <| gy rfl <| vl (mvv (v := .int _ _) rfl) <| gy rfl <| ?_
                            refine cl Try.call20 rfl (hasInt_c hK (by assumption)) ?_
                            rintro _ w ⟨rfl, hK⟩
                            refine gy rfl <| vl (mvv (v := .bool _) rfl) <| ?_
                            refine splP (t := 169) rfl (fun q4 => ?_) (fun q4 => ?_)
                            · refine gy rfl <| vl mv <| gy rfl <| vl (mvv (v := .int _ _) rfl) <| gy rfl <| ?_
                              refine cl Try.call20 rfl (hasInt_c hK (by assumption)) ?_
                              rintro _ w ⟨rfl, hK⟩
                              refine gy rfl <| vl (nt rfl) <| gy rfl <| vl (pk rfl) <| gy rfl <| vl (mvv (v := .bool _) rfl) <| ?_
                              refine splP (t := 175) rfl (fun q5 => ?_) (fun q5 => ?_)
                              · refine gy rfl <| vl mv <| gy rfl <| vl (mvv (v := .int _ _) rfl) <| gy rfl <| ?_
                                refine cl Try.call20 rfl (hasInt_c hK (by assumption)) ?_
                                rintro _ w ⟨rfl, hK⟩
                                refine gy rfl <| vl (nt rfl) <| gy rfl <| vl (pk rfl) <| vl (pk rfl) <| nl <| thn <| ?_
                                refine cdP rfl (fun q6 => ?_) (fun q6 => ?_)
                                · have _ := trivial
                                  exact absurd (hBj q4) (fun h => h.elim q1 q6)
                                · refine sk <| bkn <| thn <| rg <| ?_
                                  refine vl (mvv (v := .int _ _) rfl) <| vl (ad rfl rfl (by first | omega | (simp only; omega)) (by first | omega | (simp only; omega))) <| vl (asv (v := .int _ _) rfl) <| nl <| thn <| ?_
                                  exact ⟨j + 1, ⟨rfl, rfl, rfl, rfl, trivial⟩, ⟨by omega, _, hK⟩, by omega⟩
                              · have _ := trivial
                                exact absurd q1 q5
                            · refine gn rfl <| gn rfl <| gn rfl <| gn rfl <| gy rfl <| vl (pk rfl) <| gy rfl <| vl (mvv (v := .bool _) rfl) <| gn rfl <| gn rfl <| gn rfl <| gn rfl <| gy rfl <| vl (pk rfl) <| vl (pk rfl) <| nl <| thn <| ?_
                              refine cdf rfl ?_
                              refine sk <| bkn <| thn <| rg <| ?_
                              refine vl (mvv (v := .int _ _) rfl) <| vl (ad rfl rfl (by first | omega | (simp only; omega)) (by first | omega | (simp only; omega))) <| vl (asv (v := .int _ _) rfl) <| nl <| thn <| ?_
                              exact ⟨j + 1, ⟨rfl, rfl, rfl, rfl, trivial⟩, ⟨by omega, _, hK⟩, by omega⟩
                        · refine ex <| the <| the <| bkh <| thn <| sq <| rg <| ?_
                          refine vl (lsO hK Ty.a33 Ty.s33 0 rfl rfl rfl) <| ?_
                          refine cl Try.call29 rfl (implScanDone_c hK (by assumption)) ?_
                          rintro _ w ⟨rfl, hK⟩
                          refine vl (mvv (v := .bool _) rfl) <| ?_
                          have hdone : SnOk (64, ts) ∧ (64 : Int) = 64 := ⟨hM.1, rfl⟩
                          refine spl (t := 184) rfl (fun q1 => ?_) (fun q1 => ?_)
                          · refine gy rfl <| vl (lsO hK Ty.a33 Ty.s33 0 rfl rfl rfl) <| gy rfl <| ?_
                            refine cl Try.call23 rfl (implScanValid_c hK (by assumption)) ?_
                            rintro _ w ⟨rfl, hK⟩
                            refine vl (pk rfl) <| vl (asv (v := .bool _) rfl) <| nl <| thn <| rt <| p1r (a := .bool _) rfl <| ?_
                            exact ⟨by rw [dec_t hM.1], _, _, hK, hGG.trans hG5⟩
                          · have _ := trivial
                            exact absurd hdone (not_dec q1)
                    · exfalso
                      omega
end
end Go.Proofs.Ytemeepjdjaabmaa
