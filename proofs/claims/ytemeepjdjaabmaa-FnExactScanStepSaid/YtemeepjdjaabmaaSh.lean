/- The law on exact steps of a scan: what it returns. Conditions: those that each row states. -/
import Derived.Test.YtemeepjdjaabmaaSe
import Derived.Test.YtemeepjdjaabmaaSf
namespace Go.Proofs.Ytemeepjdjaabmaa
open Go Go.Ro

section
variable {e w : World} {G : View} {L A : Own} {v u t t2 : Value} {xs ys ks ts us : List Int} {ls ms : List Ls} {n m k : Int}

theorem scanF_len {s : Sn} (h : s.2.length ≤ 1048576) : (scanF ls ks s).1.2.length ≤ 1048576 := by
  rcases Classical.em (LsOk ls ∧ Asc ks ∧ SnOk s) with g | g
  · rcases Classical.em (s.1 = 64) with h2 | h2
    · rw [scanF_end g h2]; exact h
    · rw [scanF_go g h2]
      have := (SnOk.stp g.2.2 g.1 g.2.1 (by have := g.2.2.1.2; omega)).2.1.len
      show (stp ls ks s).2.length ≤ 1048576
      omega
  · rw [scanF_no g]; simp

theorem FnExactScanStep_c (hK : K e w G L) (hv : LeaS G v ls) (hu : IntS G u ks) (ht : IntS G t ts) : Ret Try.prog 15 #[v, u, .agg #[.int .i64 n, t]] w (fun r w' => r = .bool true ∧ ∃ G' L', K e w' G' L' ∧ VLe G G') := by
  have hule := hu.le
  refine enter1 (args := [v, u, .agg #[.int .i64 n, t]]) Try.func15 rfl rfl rfl rfl ?_
  refine sq <| rg <| ?_
  refine bx hK rfl rfl ?_
  intro b5 w hK
  refine vl (asv (v := .bool _) rfl) <| nl <| thn <| sq <| sq <| rg <| vl mv <| vl (ln Try.underlying24 rfl hu.len) <| vl (gt rfl rfl) <| nl <| thn <| ?_
  refine cdP rfl (fun hbig => ?_) (fun hbig => ?_)
  · refine sq <| rg <| ?_
    refine vl (asv (v := .bool _) rfl) <| nl <| thn <| rt <| thr <| p1r (a := .bool _) rfl <| ?_
    exact ⟨rfl, _, _, hK, VLe.refl _⟩
  · have hlu : ks.length ≤ 1048576 := by omega
    refine sk <| thn <| sq <| rg <| ?_
    refine vl (asv (v := .int _ _) rfl) <| nl <| thn <| sq <| rg <| vl mv <| vl (mvv (v := .int _ _) rfl) <| ?_
    refine cl Try.call39 rfl (szLeaseS_c hK hv (by first | omega | (simp only; omega)) (by first | omega | (simp only; omega))) ?_
    rintro _ w ⟨⟨k, rfl, k1, k2, k3⟩, hK⟩
    refine vl (asv (v := .int _ _) rfl) <| nl <| thn <| sq <| sq <| rg <| vl (mvv (v := .int _ _) rfl) <| vl (lt rfl rfl) <| nl <| thn <| ?_
    refine cdP rfl (fun hneg => ?_) (fun hneg => ?_)
    · refine sq <| rg <| ?_
      refine vl (asv (v := .bool _) rfl) <| nl <| thn <| rt <| thr <| p1r (a := .bool _) rfl <| ?_
      exact ⟨rfl, _, _, hK, VLe.refl _⟩
    · have hl : ls.length ≤ 1048576 := by have := k3 (by omega); omega
      refine sk <| thn <| sq <| rg <| ?_
      refine vl (lsO hK Ty.a37 Ty.s37 0 rfl rfl rfl) <| vl (mvv (v := .int _ _) rfl) <| ?_
      refine cl Try.call25 rfl (szScan_c hK ht (by first | omega | (simp only; omega)) (by first | omega | (simp only; omega))) ?_
      rintro _ w ⟨⟨k', rfl, k4, k5, k6⟩, hK⟩
      refine vl (asv (v := .int _ _) rfl) <| nl <| thn <| sq <| sq <| rg <| vl (mvv (v := .int _ _) rfl) <| vl (lt rfl rfl) <| nl <| thn <| ?_
      refine cdP rfl (fun hneg2 => ?_) (fun hneg2 => ?_)
      · refine sq <| rg <| ?_
        refine vl (asv (v := .bool _) rfl) <| nl <| thn <| rt <| thr <| p1r (a := .bool _) rfl <| ?_
        exact ⟨rfl, _, _, hK, VLe.refl _⟩
      · have hlt : ts.length ≤ 1048576 := by have := k6 (by omega); omega
        refine sk <| thn <| sq <| ?_
        refine ct (σ := Nat × Value × View) (fun s => [(0, v), (1, u), (5, .pointer (some ⟨b5, 0, none⟩)), (8, .pointer (some ⟨s.1, 0, none⟩)), (9, .bool (scanF ls ks (n, ts)).2)]) (fun s w => VLe G s.2.2 ∧ IntS s.2.2 s.2.1 (scanF ls ks (n, ts)).1.2 ∧ K e w s.2.2 ((s.1, row [.int .i64 (scanF ls ks (n, ts)).1.1, s.2.1] 33) :: (b5, row [.int .i64 n, t] 37) :: L)) ?_ ?_
        · refine rgs (fun w => K e w G ((b5, row [.int .i64 n, t] 37) :: L)) (fun w => K _ w _ _) [false, false, false, false, false, false, false, false, false, false, false, false, false] 13 Ty.mixed rfl rfl (hK.drawn _) ?_
          intro w hK
          have hS : (fun w => K e w G ((b5, row [.int .i64 n, t] 37) :: L)) w := K.sl hK (by repeat' (first | exact List.Sublist.refl _ | refine List.Sublist.cons_cons _ ?_ | refine List.Sublist.cons _ ?_ | refine List.Sublist.trans ?_ (List.sublist_append_right _ _)))
          refine xt (i := 0) (l' := [true, false, false, false, false, false, false, false, false, false, false, false, false]) rfl (by kernel_rfl) rfl rfl (fun w hK => mv) hS <| ?_; refine xt (i := 2) (l' := [true, false, true, false, false, false, false, false, false, false, false, false, false]) rfl (by kernel_rfl) rfl rfl (fun w hK => mv) hS <| ?_; refine xt (i := 4) (l' := [true, false, true, false, true, false, false, false, false, false, false, false, false]) rfl (by kernel_rfl) rfl rfl (fun w hK => (lsO hK Ty.a37 Ty.s37 0 rfl rfl rfl)) hS <| ?_
          refine xe2 (i := 1) (j := 10) (l' := [true, true, true, false, true, false, false, false, false, false, false, false, false]) (l2 := [true, false, true, false, true, false, false, false, false, false, true, false, false]) (by kernel_rfl) rfl rfl rfl rfl ?_ ?_
          · skip
            refine cl Try.call40 rfl (toLeaseS_v hK hv hl) ?_
            rintro va w ⟨G1, hG1, hva, hK⟩
            replace hS : (fun w => K e w G ((b5, row [.int .i64 n, t] 37) :: L)) w := (by first | exact K.vle hK hG1 | exact K.vle (K.drop1 hK) hG1)
            refine xn (fun w => K e w G ((b5, row [.int .i64 n, t] 37) :: L)) hS (fun _ h => h) ?_
            refine xe2 (i := 3) (j := 10) (l' := [true, true, true, true, true, false, false, false, false, false, false, false, false]) (l2 := [true, true, true, false, true, false, false, false, false, false, true, false, false]) (by kernel_rfl) rfl rfl rfl rfl ?_ ?_
            · skip
              refine cl Try.call41 rfl (toIntS_v hK (hu.mono hG1) hlu) ?_
              rintro ua w ⟨G2, hG2, hua, hK⟩
              replace hS : (fun w => K e w G ((b5, row [.int .i64 n, t] 37) :: L)) w := (by first | exact K.vle hK (hG1.trans hG2) | exact K.vle (K.drop1 hK) (hG1.trans hG2))
              refine xn (fun w => K e w G ((b5, row [.int .i64 n, t] 37) :: L)) hS (fun _ h => h) ?_
              refine xe2 (i := 5) (j := 10) (l' := [true, true, true, true, true, true, false, false, false, false, false, false, false]) (l2 := [true, true, true, true, true, false, false, false, false, false, true, false, false]) (by kernel_rfl) rfl rfl rfl rfl ?_ ?_
              · skip
                refine cl Try.call26 rfl (toScan_v hK (ht.mono (hG1.trans hG2)) hlt) ?_
                rintro _ w ⟨G3, ta, rfl, hG3, hta, hK⟩
                replace hS : (fun w => K e w G ((b5, row [.int .i64 n, t] 37) :: L)) w := (by first | exact K.vle hK ((hG1.trans hG2).trans hG3) | exact K.vle (K.drop1 hK) ((hG1.trans hG2).trans hG3))
                refine xn (fun w => K e w G ((b5, row [.int .i64 n, t] 37) :: L)) hS (fun _ h => h) ?_
                refine xe2 (i := 6) (j := 10) (l' := [true, true, true, true, true, true, true, false, false, false, false, false, false]) (l2 := [true, true, true, true, true, true, false, false, false, false, true, false, false]) (by kernel_rfl) rfl rfl rfl rfl ?_ ?_
                · skip
                  refine cl Try.call48 rfl (specScanStep_v hK (hva.mono (hG2.trans hG3)) (hua.mono hG3) hta (by first | omega | (simp only; omega))) ?_
                  rintro _ w ⟨G4, tw, rfl, hG4, hw, hK⟩
                  replace hS : (fun w => K e w G ((b5, row [.int .i64 n, t] 37) :: L)) w := (by first | exact K.vle hK (((hG1.trans hG2).trans hG3).trans hG4) | exact K.vle (K.drop1 hK) (((hG1.trans hG2).trans hG3).trans hG4))
                  refine xn (fun w => K e w G ((b5, row [.int .i64 n, t] 37) :: L)) hS (fun _ h => h) ?_
                  refine xt (i := 7) (l' := [true, true, true, true, true, true, true, true, false, false, false, false, false]) rfl (by kernel_rfl) rfl rfl (fun w hK => mv) hS <| ?_; refine xt (i := 8) (l' := [true, true, true, true, true, true, true, true, true, false, false, false, false]) rfl (by kernel_rfl) rfl rfl (fun w hK => (ext rfl rfl)) hS <| ?_; refine xt (i := 9) (l' := [true, true, true, true, true, true, true, true, true, true, false, false, false]) rfl (by kernel_rfl) rfl rfl (fun w hK => (ext rfl rfl)) hS <| ?_
                  refine xe (i := 10) (l' := [true, true, true, true, true, true, true, true, true, true, true, false, false]) (by kernel_rfl) rfl rfl ?_
                  refine al hK Ty.i33 rfl ?_
                  intro b8 w hK
                  replace hS : (fun w => K e w G ((b5, row [.int .i64 n, t] 37) :: L)) w := (by first | exact K.vle hK (((hG1.trans hG2).trans hG3).trans hG4) | exact K.vle (K.drop1 hK) (((hG1.trans hG2).trans hG3).trans hG4))
                  refine xn (fun w => K e w G ((b5, row [.int .i64 n, t] 37) :: L)) hS (fun _ h => h) ?_
                  refine xe (i := 11) (l' := [true, true, true, true, true, true, true, true, true, true, true, true, false]) (by kernel_rfl) rfl rfl ?_
                  refine soS hK Ty.i33 0 rfl rfl rfl rfl (allc rfl (allc hw.1.one rfl)) rfl ?_
                  intro w hK
                  replace hS : (fun w => K e w G ((b5, row [.int .i64 n, t] 37) :: L)) w := (by first | exact K.vle hK (((hG1.trans hG2).trans hG3).trans hG4) | exact K.vle (K.drop1 hK) (((hG1.trans hG2).trans hG3).trans hG4))
                  refine xn (fun w => K e w G ((b5, row [.int .i64 n, t] 37) :: L)) hS (fun _ h => h) ?_
                  refine xt (i := 12) (l' := [true, true, true, true, true, true, true, true, true, true, true, true, true]) rfl (by kernel_rfl) rfl rfl (fun w hK => (asv (v := .bool _) rfl)) hS <| ?_; refine xd (by kernel_rfl) <| ctn <| ?_
                  exact ⟨(b8, tw, G4), ⟨rfl, rfl, rfl, rfl, rfl, trivial⟩, (((hG1.trans hG2).trans hG3).trans hG4), hw, hK⟩
                · refine al hK Ty.i33 rfl ?_
                  intro b8 w hK
                  replace hS : (fun w => K e w G ((b5, row [.int .i64 n, t] 37) :: L)) w := (by first | exact K.vle hK ((hG1.trans hG2).trans hG3) | exact K.vle (K.drop1 hK) ((hG1.trans hG2).trans hG3))
                  refine xn (fun w => K e w G ((b5, row [.int .i64 n, t] 37) :: L)) hS (fun _ h => h) ?_
                  refine xe (i := 6) (l' := [true, true, true, true, true, true, true, false, false, false, true, false, false]) (by kernel_rfl) rfl rfl ?_
                  refine cl Try.call48 rfl (specScanStep_v hK (hva.mono (hG2.trans hG3)) (hua.mono hG3) hta (by first | omega | (simp only; omega))) ?_
                  rintro _ w ⟨G4, tw, rfl, hG4, hw, hK⟩
                  replace hS : (fun w => K e w G ((b5, row [.int .i64 n, t] 37) :: L)) w := (by first | exact K.vle hK (((hG1.trans hG2).trans hG3).trans hG4) | exact K.vle (K.drop1 hK) (((hG1.trans hG2).trans hG3).trans hG4))
                  refine xn (fun w => K e w G ((b5, row [.int .i64 n, t] 37) :: L)) hS (fun _ h => h) ?_
                  refine xt (i := 7) (l' := [true, true, true, true, true, true, true, true, false, false, true, false, false]) rfl (by kernel_rfl) rfl rfl (fun w hK => mv) hS <| ?_; refine xt (i := 8) (l' := [true, true, true, true, true, true, true, true, true, false, true, false, false]) rfl (by kernel_rfl) rfl rfl (fun w hK => (ext rfl rfl)) hS <| ?_; refine xt (i := 9) (l' := [true, true, true, true, true, true, true, true, true, true, true, false, false]) rfl (by kernel_rfl) rfl rfl (fun w hK => (ext rfl rfl)) hS <| ?_
                  refine xe (i := 11) (l' := [true, true, true, true, true, true, true, true, true, true, true, true, false]) (by kernel_rfl) rfl rfl ?_
                  refine soS hK Ty.i33 0 rfl rfl rfl rfl (allc rfl (allc hw.1.one rfl)) rfl ?_
                  intro w hK
                  replace hS : (fun w => K e w G ((b5, row [.int .i64 n, t] 37) :: L)) w := (by first | exact K.vle hK (((hG1.trans hG2).trans hG3).trans hG4) | exact K.vle (K.drop1 hK) (((hG1.trans hG2).trans hG3).trans hG4))
                  refine xn (fun w => K e w G ((b5, row [.int .i64 n, t] 37) :: L)) hS (fun _ h => h) ?_
                  refine xt (i := 12) (l' := [true, true, true, true, true, true, true, true, true, true, true, true, true]) rfl (by kernel_rfl) rfl rfl (fun w hK => (asv (v := .bool _) rfl)) hS <| ?_; refine xd (by kernel_rfl) <| ctn <| ?_
                  exact ⟨(b8, tw, G4), ⟨rfl, rfl, rfl, rfl, rfl, trivial⟩, (((hG1.trans hG2).trans hG3).trans hG4), hw, hK⟩
              · refine al hK Ty.i33 rfl ?_
                intro b8 w hK
                replace hS : (fun w => K e w G ((b5, row [.int .i64 n, t] 37) :: L)) w := (by first | exact K.vle hK (hG1.trans hG2) | exact K.vle (K.drop1 hK) (hG1.trans hG2))
                refine xn (fun w => K e w G ((b5, row [.int .i64 n, t] 37) :: L)) hS (fun _ h => h) ?_
                refine xe (i := 5) (l' := [true, true, true, true, true, true, false, false, false, false, true, false, false]) (by kernel_rfl) rfl rfl ?_
                refine cl Try.call26 rfl (toScan_v hK (ht.mono (hG1.trans hG2)) hlt) ?_
                rintro _ w ⟨G3, ta, rfl, hG3, hta, hK⟩
                replace hS : (fun w => K e w G ((b5, row [.int .i64 n, t] 37) :: L)) w := (by first | exact K.vle hK ((hG1.trans hG2).trans hG3) | exact K.vle (K.drop1 hK) ((hG1.trans hG2).trans hG3))
                refine xn (fun w => K e w G ((b5, row [.int .i64 n, t] 37) :: L)) hS (fun _ h => h) ?_
                refine xe (i := 6) (l' := [true, true, true, true, true, true, true, false, false, false, true, false, false]) (by kernel_rfl) rfl rfl ?_
                refine cl Try.call48 rfl (specScanStep_v hK (hva.mono (hG2.trans hG3)) (hua.mono hG3) hta (by first | omega | (simp only; omega))) ?_
                rintro _ w ⟨G4, tw, rfl, hG4, hw, hK⟩
                replace hS : (fun w => K e w G ((b5, row [.int .i64 n, t] 37) :: L)) w := (by first | exact K.vle hK (((hG1.trans hG2).trans hG3).trans hG4) | exact K.vle (K.drop1 hK) (((hG1.trans hG2).trans hG3).trans hG4))
                refine xn (fun w => K e w G ((b5, row [.int .i64 n, t] 37) :: L)) hS (fun _ h => h) ?_
                refine xt (i := 7) (l' := [true, true, true, true, true, true, true, true, false, false, true, false, false]) rfl (by kernel_rfl) rfl rfl (fun w hK => mv) hS <| ?_; refine xt (i := 8) (l' := [true, true, true, true, true, true, true, true, true, false, true, false, false]) rfl (by kernel_rfl) rfl rfl (fun w hK => (ext rfl rfl)) hS <| ?_; refine xt (i := 9) (l' := [true, true, true, true, true, true, true, true, true, true, true, false, false]) rfl (by kernel_rfl) rfl rfl (fun w hK => (ext rfl rfl)) hS <| ?_
                refine xe (i := 11) (l' := [true, true, true, true, true, true, true, true, true, true, true, true, false]) (by kernel_rfl) rfl rfl ?_
                refine soS hK Ty.i33 0 rfl rfl rfl rfl (allc rfl (allc hw.1.one rfl)) rfl ?_
                intro w hK
                replace hS : (fun w => K e w G ((b5, row [.int .i64 n, t] 37) :: L)) w := (by first | exact K.vle hK (((hG1.trans hG2).trans hG3).trans hG4) | exact K.vle (K.drop1 hK) (((hG1.trans hG2).trans hG3).trans hG4))
                refine xn (fun w => K e w G ((b5, row [.int .i64 n, t] 37) :: L)) hS (fun _ h => h) ?_
                refine xt (i := 12) (l' := [true, true, true, true, true, true, true, true, true, true, true, true, true]) rfl (by kernel_rfl) rfl rfl (fun w hK => (asv (v := .bool _) rfl)) hS <| ?_; refine xd (by kernel_rfl) <| ctn <| ?_
                exact ⟨(b8, tw, G4), ⟨rfl, rfl, rfl, rfl, rfl, trivial⟩, (((hG1.trans hG2).trans hG3).trans hG4), hw, hK⟩
            · refine al hK Ty.i33 rfl ?_
              intro b8 w hK
              replace hS : (fun w => K e w G ((b5, row [.int .i64 n, t] 37) :: L)) w := (by first | exact K.vle hK hG1 | exact K.vle (K.drop1 hK) hG1)
              refine xn (fun w => K e w G ((b5, row [.int .i64 n, t] 37) :: L)) hS (fun _ h => h) ?_
              refine xe (i := 3) (l' := [true, true, true, true, true, false, false, false, false, false, true, false, false]) (by kernel_rfl) rfl rfl ?_
              refine cl Try.call41 rfl (toIntS_v hK (hu.mono hG1) hlu) ?_
              rintro ua w ⟨G2, hG2, hua, hK⟩
              replace hS : (fun w => K e w G ((b5, row [.int .i64 n, t] 37) :: L)) w := (by first | exact K.vle hK (hG1.trans hG2) | exact K.vle (K.drop1 hK) (hG1.trans hG2))
              refine xn (fun w => K e w G ((b5, row [.int .i64 n, t] 37) :: L)) hS (fun _ h => h) ?_
              refine xe (i := 5) (l' := [true, true, true, true, true, true, false, false, false, false, true, false, false]) (by kernel_rfl) rfl rfl ?_
              refine cl Try.call26 rfl (toScan_v hK (ht.mono (hG1.trans hG2)) hlt) ?_
              rintro _ w ⟨G3, ta, rfl, hG3, hta, hK⟩
              replace hS : (fun w => K e w G ((b5, row [.int .i64 n, t] 37) :: L)) w := (by first | exact K.vle hK ((hG1.trans hG2).trans hG3) | exact K.vle (K.drop1 hK) ((hG1.trans hG2).trans hG3))
              refine xn (fun w => K e w G ((b5, row [.int .i64 n, t] 37) :: L)) hS (fun _ h => h) ?_
              refine xe (i := 6) (l' := [true, true, true, true, true, true, true, false, false, false, true, false, false]) (by kernel_rfl) rfl rfl ?_
              refine cl Try.call48 rfl (specScanStep_v hK (hva.mono (hG2.trans hG3)) (hua.mono hG3) hta (by first | omega | (simp only; omega))) ?_
              rintro _ w ⟨G4, tw, rfl, hG4, hw, hK⟩
              replace hS : (fun w => K e w G ((b5, row [.int .i64 n, t] 37) :: L)) w := (by first | exact K.vle hK (((hG1.trans hG2).trans hG3).trans hG4) | exact K.vle (K.drop1 hK) (((hG1.trans hG2).trans hG3).trans hG4))
              refine xn (fun w => K e w G ((b5, row [.int .i64 n, t] 37) :: L)) hS (fun _ h => h) ?_
              refine xt (i := 7) (l' := [true, true, true, true, true, true, true, true, false, false, true, false, false]) rfl (by kernel_rfl) rfl rfl (fun w hK => mv) hS <| ?_; refine xt (i := 8) (l' := [true, true, true, true, true, true, true, true, true, false, true, false, false]) rfl (by kernel_rfl) rfl rfl (fun w hK => (ext rfl rfl)) hS <| ?_; refine xt (i := 9) (l' := [true, true, true, true, true, true, true, true, true, true, true, false, false]) rfl (by kernel_rfl) rfl rfl (fun w hK => (ext rfl rfl)) hS <| ?_
              refine xe (i := 11) (l' := [true, true, true, true, true, true, true, true, true, true, true, true, false]) (by kernel_rfl) rfl rfl ?_
              refine soS hK Ty.i33 0 rfl rfl rfl rfl (allc rfl (allc hw.1.one rfl)) rfl ?_
              intro w hK
              replace hS : (fun w => K e w G ((b5, row [.int .i64 n, t] 37) :: L)) w := (by first | exact K.vle hK (((hG1.trans hG2).trans hG3).trans hG4) | exact K.vle (K.drop1 hK) (((hG1.trans hG2).trans hG3).trans hG4))
              refine xn (fun w => K e w G ((b5, row [.int .i64 n, t] 37) :: L)) hS (fun _ h => h) ?_
              refine xt (i := 12) (l' := [true, true, true, true, true, true, true, true, true, true, true, true, true]) rfl (by kernel_rfl) rfl rfl (fun w hK => (asv (v := .bool _) rfl)) hS <| ?_; refine xd (by kernel_rfl) <| ctn <| ?_
              exact ⟨(b8, tw, G4), ⟨rfl, rfl, rfl, rfl, rfl, trivial⟩, (((hG1.trans hG2).trans hG3).trans hG4), hw, hK⟩
          · refine al hK Ty.i33 rfl ?_
            intro b8 w hK
            replace hS : (fun w => K e w G ((b5, row [.int .i64 n, t] 37) :: L)) w := K.sl hK (by repeat' (first | exact List.Sublist.refl _ | refine List.Sublist.cons_cons _ ?_ | refine List.Sublist.cons _ ?_ | refine List.Sublist.trans ?_ (List.sublist_append_right _ _)))
            refine xn (fun w => K e w G ((b5, row [.int .i64 n, t] 37) :: L)) hS (fun _ h => h) ?_
            refine xe (i := 1) (l' := [true, true, true, false, true, false, false, false, false, false, true, false, false]) (by kernel_rfl) rfl rfl ?_
            refine cl Try.call40 rfl (toLeaseS_v hK hv hl) ?_
            rintro va w ⟨G1, hG1, hva, hK⟩
            replace hS : (fun w => K e w G ((b5, row [.int .i64 n, t] 37) :: L)) w := (by first | exact K.vle hK hG1 | exact K.vle (K.drop1 hK) hG1)
            refine xn (fun w => K e w G ((b5, row [.int .i64 n, t] 37) :: L)) hS (fun _ h => h) ?_
            refine xe (i := 3) (l' := [true, true, true, true, true, false, false, false, false, false, true, false, false]) (by kernel_rfl) rfl rfl ?_
            refine cl Try.call41 rfl (toIntS_v hK (hu.mono hG1) hlu) ?_
            rintro ua w ⟨G2, hG2, hua, hK⟩
            replace hS : (fun w => K e w G ((b5, row [.int .i64 n, t] 37) :: L)) w := (by first | exact K.vle hK (hG1.trans hG2) | exact K.vle (K.drop1 hK) (hG1.trans hG2))
            refine xn (fun w => K e w G ((b5, row [.int .i64 n, t] 37) :: L)) hS (fun _ h => h) ?_
            refine xe (i := 5) (l' := [true, true, true, true, true, true, false, false, false, false, true, false, false]) (by kernel_rfl) rfl rfl ?_
            refine cl Try.call26 rfl (toScan_v hK (ht.mono (hG1.trans hG2)) hlt) ?_
            rintro _ w ⟨G3, ta, rfl, hG3, hta, hK⟩
            replace hS : (fun w => K e w G ((b5, row [.int .i64 n, t] 37) :: L)) w := (by first | exact K.vle hK ((hG1.trans hG2).trans hG3) | exact K.vle (K.drop1 hK) ((hG1.trans hG2).trans hG3))
            refine xn (fun w => K e w G ((b5, row [.int .i64 n, t] 37) :: L)) hS (fun _ h => h) ?_
            refine xe (i := 6) (l' := [true, true, true, true, true, true, true, false, false, false, true, false, false]) (by kernel_rfl) rfl rfl ?_
            refine cl Try.call48 rfl (specScanStep_v hK (hva.mono (hG2.trans hG3)) (hua.mono hG3) hta (by first | omega | (simp only; omega))) ?_
            rintro _ w ⟨G4, tw, rfl, hG4, hw, hK⟩
            replace hS : (fun w => K e w G ((b5, row [.int .i64 n, t] 37) :: L)) w := (by first | exact K.vle hK (((hG1.trans hG2).trans hG3).trans hG4) | exact K.vle (K.drop1 hK) (((hG1.trans hG2).trans hG3).trans hG4))
            refine xn (fun w => K e w G ((b5, row [.int .i64 n, t] 37) :: L)) hS (fun _ h => h) ?_
            refine xt (i := 7) (l' := [true, true, true, true, true, true, true, true, false, false, true, false, false]) rfl (by kernel_rfl) rfl rfl (fun w hK => mv) hS <| ?_; refine xt (i := 8) (l' := [true, true, true, true, true, true, true, true, true, false, true, false, false]) rfl (by kernel_rfl) rfl rfl (fun w hK => (ext rfl rfl)) hS <| ?_; refine xt (i := 9) (l' := [true, true, true, true, true, true, true, true, true, true, true, false, false]) rfl (by kernel_rfl) rfl rfl (fun w hK => (ext rfl rfl)) hS <| ?_
            refine xe (i := 11) (l' := [true, true, true, true, true, true, true, true, true, true, true, true, false]) (by kernel_rfl) rfl rfl ?_
            refine soS hK Ty.i33 0 rfl rfl rfl rfl (allc rfl (allc hw.1.one rfl)) rfl ?_
            intro w hK
            replace hS : (fun w => K e w G ((b5, row [.int .i64 n, t] 37) :: L)) w := (by first | exact K.vle hK (((hG1.trans hG2).trans hG3).trans hG4) | exact K.vle (K.drop1 hK) (((hG1.trans hG2).trans hG3).trans hG4))
            refine xn (fun w => K e w G ((b5, row [.int .i64 n, t] 37) :: L)) hS (fun _ h => h) ?_
            refine xt (i := 12) (l' := [true, true, true, true, true, true, true, true, true, true, true, true, true]) rfl (by kernel_rfl) rfl rfl (fun w hK => (asv (v := .bool _) rfl)) hS <| ?_; refine xd (by kernel_rfl) <| ctn <| ?_
            exact ⟨(b8, tw, G4), ⟨rfl, rfl, rfl, rfl, rfl, trivial⟩, (((hG1.trans hG2).trans hG3).trans hG4), hw, hK⟩
        · rintro ⟨b8, tw, G4⟩ g w ⟨hG, hw, hK⟩
          refine thn <| sq <| rg <| ?_
          refine vl mv <| ?_
          simp only at hG hw hK
          have hn2 : ∀ {w'}, K e w' G4 L → True := fun _ => trivial
          replace hv := hv.mono hG
          replace hu := hu.mono hG
          replace ht := ht.mono hG
          have hzl := scanF_len (ls := ls) (ks := ks) (s := (n, ts)) hlt
          refine cl Try.call40 rfl (toLeaseS_c hK hv hl) ?_
          rintro x0 w ⟨A0, ho0, hK⟩
          replace hK := K.mid (A := A0) (B := [_, _]) hK
          refine vl asg <| nl <| thn <| sq <| rg <| vl mv <| ?_
          refine cl Try.call41 rfl (toIntS_o hK hu hlu) ?_
          rintro x1 w ⟨A1, ho1, hK⟩
          replace hK := K.mid (A := A1) (B := [_, _]) hK
          refine vl asg <| nl <| thn <| sq <| rg <| vl (lsO hK Ty.a37 Ty.s37 1 rfl rfl rfl) <| ?_
          refine cl Try.call26 rfl (toScan_c hK ht hlt) ?_
          rintro _ w ⟨x2, A2, rfl, ho2, hK⟩
          replace hK := K.mid (A := A2) (B := [_, _]) hK
          refine al hK Ty.i33 rfl ?_
          intro b12 w hK
          refine soS hK Ty.i33 0 rfl rfl rfl rfl (allc rfl (allc ho2.one rfl)) rfl ?_
          intro w hK
          refine nl <| thn <| sq <| rg <| vl mv <| vl mv <| vl (lsO hK Ty.a33 Ty.s33 0 rfl rfl rfl) <| ?_
          replace hK : K e w G4 ((b12, row [.int .i64 n, x2] 33) :: (b8, row [.int .i64 (scanF ls ks (n, ts)).1.1, tw] 33) :: (b5, row [.int .i64 n, t] 37) :: (A2 ++ (A1 ++ (A0 ++ L)))) := hK
          have h0 : K e w G4 (A0 ++ (A1 ++ (A2 ++ ((b12, row [.int .i64 n, x2] 33) :: (b8, row [.int .i64 (scanF ls ks (n, ts)).1.1, tw] 33) :: (b5, row [.int .i64 n, t] 37) :: L)))) := hK.cnt fun f => by simp only [List.map_append, List.map_cons, List.map_nil, List.sum_append, List.sum_cons, List.sum_nil]; omega
          have h1 := h0.pub
          have h2 := h1.pub
          have h3 := h2.pub
          have h01 := h0.addV_le
          refine cl Try.call32 rfl (implScanStep_c h3 ((LeaS.mono (OS.ef (c := lc) (sz := 3) (fun _ => rfl) ho0) h1.addV_le).mono h2.addV_le) (ho1.ints.mono h2.addV_le) ho2.ints (by first | omega | (simp only; omega))) ?_
          rintro _ w ⟨tg, Ag, rfl, hog, hK⟩
          replace hK := h0.unpub' (h1.unpub' (h2.unpub' hK))
          replace hK : K e w G4 ((b12, row [.int .i64 n, x2] 33) :: (b8, row [.int .i64 (scanF ls ks (n, ts)).1.1, tw] 33) :: (b5, row [.int .i64 n, t] 37) :: (Ag ++ (A0 ++ (A1 ++ (A2 ++ L))))) := hK.cnt fun f => by simp only [List.map_append, List.map_cons, List.map_nil, List.sum_append, List.sum_cons, List.sum_nil]; omega
          refine vl mv <| vl (ext rfl rfl) <| vl (ext rfl rfl) <| ?_
          refine al hK Ty.i33 rfl ?_
          intro b13 w hK
          refine soS hK Ty.i33 0 rfl rfl rfl rfl (allc rfl (allc hog.one rfl)) rfl ?_
          intro w hK
          refine vl (asv (v := .bool _) rfl) <| nl <| thn <| sq <| sq <| rg <| vl (lsO hK Ty.a33 Ty.s33 0 rfl rfl rfl) <| vl (lsO hK Ty.a33 Ty.s33 2 rfl rfl rfl) <| ?_
          replace hK : K e w G4 ((b13, row [.int .i64 (scanF ls ks (n, ts)).1.1, tg] 33) :: (b12, row [.int .i64 n, x2] 33) :: (b8, row [.int .i64 (scanF ls ks (n, ts)).1.1, tw] 33) :: (b5, row [.int .i64 n, t] 37) :: (Ag ++ (A0 ++ (A1 ++ (A2 ++ L))))) := hK
          refine cl Try.call27 rfl (eqScan_o (K.mid (A := [_, _, _, _]) (B := Ag) hK) hog hw) ?_
          rintro _ w ⟨rfl, hK⟩
          replace hK := K.mid (A := Ag) (B := [_, _, _, _]) hK
          refine vl (nt rfl) <| vl (mvv (v := .bool _) rfl) <| ?_
          refine splP (t := 60) rfl (fun e1 => ?_) (fun e1 => ?_)
          · exact absurd ⟨rfl, rfl⟩ e1
          · have _ := trivial
            refine gy rfl <| vl (mvv (v := .bool _) rfl) <| gy rfl <| vl (mvv (v := .bool _) rfl) <| gy rfl <| vl (neB Try.underlying4 rfl rfl) <| vl (pk rfl) <| nl <| thn <| ?_
            refine cdB rfl (fun e2 => ?_) (fun e2 => ?_)
            · simp at e2
            · have _ := trivial
              refine sk <| thn <| sq <| sq <| rg <| ?_
              refine vl mv <| vl mv <| ?_
              refine cl Try.call40 rfl (toLeaseS_v hK hv hl) ?_
              rintro vb w ⟨G5, hG5, hvb, hK⟩
              replace hv := hv.mono hG5
              replace hu := hu.mono hG5
              replace ht := ht.mono hG5
              replace hw := hw.mono hG5
              replace hG := hG.trans hG5
              replace hK : K e w G5 (A0 ++ ((b13, row [.int .i64 (scanF ls ks (n, ts)).1.1, tg] 33) :: (b12, row [.int .i64 n, x2] 33) :: (b8, row [.int .i64 (scanF ls ks (n, ts)).1.1, tw] 33) :: (b5, row [.int .i64 n, t] 37) :: (Ag ++ (A1 ++ (A2 ++ L))))) := hK.cnt fun f => by simp only [List.map_append, List.map_cons, List.map_nil, List.sum_append, List.sum_cons, List.sum_nil]; omega
              refine cl Try.call43 rfl (eqLeaseS_o hK ho0 hvb) ?_
              rintro _ w ⟨rfl, hK⟩
              replace hK : K e w G5 ((b13, row [.int .i64 (scanF ls ks (n, ts)).1.1, tg] 33) :: (b12, row [.int .i64 n, x2] 33) :: (b8, row [.int .i64 (scanF ls ks (n, ts)).1.1, tw] 33) :: (b5, row [.int .i64 n, t] 37) :: (A0 ++ (Ag ++ (A1 ++ (A2 ++ L))))) := hK.cnt fun f => by simp only [List.map_append, List.map_cons, List.map_nil, List.sum_append, List.sum_cons, List.sum_nil]; omega
              refine vl (nt rfl) <| nl <| thn <| ?_
              refine cdP rfl (fun e3 => ?_) (fun e3 => ?_)
              · exact absurd rfl e3
              · have _ := trivial
                refine sk <| thn <| sq <| sq <| rg <| ?_
                refine vl mv <| vl mv <| ?_
                refine cl Try.call41 rfl (toIntS_v hK hu hlu) ?_
                rintro ub w ⟨G6, hG6, hub, hK⟩
                replace hv := hv.mono hG6
                replace hu := hu.mono hG6
                replace ht := ht.mono hG6
                replace hw := hw.mono hG6
                replace hG := hG.trans hG6
                replace hK : K e w G6 (A1 ++ ((b13, row [.int .i64 (scanF ls ks (n, ts)).1.1, tg] 33) :: (b12, row [.int .i64 n, x2] 33) :: (b8, row [.int .i64 (scanF ls ks (n, ts)).1.1, tw] 33) :: (b5, row [.int .i64 n, t] 37) :: (A0 ++ (Ag ++ (A2 ++ L))))) := hK.cnt fun f => by simp only [List.map_append, List.map_cons, List.map_nil, List.sum_append, List.sum_cons, List.sum_nil]; omega
                refine cl Try.call42 rfl (eqIntS_o hK ho1 hub) ?_
                rintro _ w ⟨rfl, hK⟩
                replace hK : K e w G6 ((b13, row [.int .i64 (scanF ls ks (n, ts)).1.1, tg] 33) :: (b12, row [.int .i64 n, x2] 33) :: (b8, row [.int .i64 (scanF ls ks (n, ts)).1.1, tw] 33) :: (b5, row [.int .i64 n, t] 37) :: (A1 ++ (A0 ++ (Ag ++ (A2 ++ L))))) := hK.cnt fun f => by simp only [List.map_append, List.map_cons, List.map_nil, List.sum_append, List.sum_cons, List.sum_nil]; omega
                refine vl (nt rfl) <| nl <| thn <| ?_
                refine cdP rfl (fun e4 => ?_) (fun e4 => ?_)
                · exact absurd rfl e4
                · have _ := trivial
                  refine sk <| thn <| sq <| sq <| ?_
                  refine rgs (fun w => K e w G6 ((b12, row [.int .i64 n, x2] 33) :: (b5, row [.int .i64 n, t] 37) :: L)) (fun w => K _ w _ _) [false, false, false, false, false] 5 Ty.mixed rfl rfl (hK.drawn _) ?_
                  intro w hK
                  have hS : (fun w => K e w G6 ((b12, row [.int .i64 n, x2] 33) :: (b5, row [.int .i64 n, t] 37) :: L)) w := K.sl hK (by repeat' (first | exact List.Sublist.refl _ | refine List.Sublist.cons_cons _ ?_ | refine List.Sublist.cons _ ?_ | refine List.Sublist.trans ?_ (List.sublist_append_right _ _)))
                  refine xt (i := 0) (l' := [true, false, false, false, false]) rfl (by kernel_rfl) rfl rfl (fun w hK => (lsO hK Ty.a33 Ty.s33 0 rfl rfl rfl)) hS <| ?_; refine xt (i := 1) (l' := [true, true, false, false, false]) rfl (by kernel_rfl) rfl rfl (fun w hK => (lsO hK Ty.a37 Ty.s37 1 rfl rfl rfl)) hS <| ?_
                  refine xe (i := 2) (l' := [true, true, true, false, false]) (by kernel_rfl) rfl rfl ?_
                  refine cl Try.call26 rfl (toScan_v hK ht hlt) ?_
                  rintro _ w ⟨G7, tb, rfl, hG7, htb, hK⟩
                  replace hv := hv.mono hG7
                  replace hu := hu.mono hG7
                  replace ht := ht.mono hG7
                  replace hw := hw.mono hG7
                  replace hG := hG.trans hG7
                  replace hS : (fun w => K e w G6 ((b12, row [.int .i64 n, x2] 33) :: (b5, row [.int .i64 n, t] 37) :: L)) w := (K.vle (K.sl hK (by repeat' (first | exact List.Sublist.refl _ | refine List.Sublist.cons_cons _ ?_ | refine List.Sublist.cons _ ?_ | refine List.Sublist.trans ?_ (List.sublist_append_right _ _)))) hG7)
                  refine xn (fun w => K e w G6 ((b12, row [.int .i64 n, x2] 33) :: (b5, row [.int .i64 n, t] 37) :: L)) hS (fun _ h => h) ?_
                  refine xe (i := 3) (l' := [true, true, true, true, false]) (by kernel_rfl) rfl rfl ?_
                  replace hK : K e w G7 (A2 ++ ((b13, row [.int .i64 (scanF ls ks (n, ts)).1.1, tg] 33) :: (b12, row [.int .i64 n, x2] 33) :: (b8, row [.int .i64 (scanF ls ks (n, ts)).1.1, tw] 33) :: (b5, row [.int .i64 n, t] 37) :: (A1 ++ (A0 ++ (Ag ++ L))))) := hK.cnt fun f => by simp only [List.map_append, List.map_cons, List.map_nil, List.sum_append, List.sum_cons, List.sum_nil]; omega
                  refine cl Try.call27 rfl (eqScan_o hK ho2 htb) ?_
                  rintro _ w ⟨rfl, hK⟩
                  replace hK : K e w G7 ((b13, row [.int .i64 (scanF ls ks (n, ts)).1.1, tg] 33) :: (b12, row [.int .i64 n, x2] 33) :: (b8, row [.int .i64 (scanF ls ks (n, ts)).1.1, tw] 33) :: (b5, row [.int .i64 n, t] 37) :: (A2 ++ (A1 ++ (A0 ++ (Ag ++ L))))) := hK.cnt fun f => by simp only [List.map_append, List.map_cons, List.map_nil, List.sum_append, List.sum_cons, List.sum_nil]; omega
                  replace hS : (fun w => K e w G6 ((b12, row [.int .i64 n, x2] 33) :: (b5, row [.int .i64 n, t] 37) :: L)) w := (K.vle (K.sl hK (by repeat' (first | exact List.Sublist.refl _ | refine List.Sublist.cons_cons _ ?_ | refine List.Sublist.cons _ ?_ | refine List.Sublist.trans ?_ (List.sublist_append_right _ _)))) hG7)
                  refine xn (fun w => K e w G6 ((b12, row [.int .i64 n, x2] 33) :: (b5, row [.int .i64 n, t] 37) :: L)) hS (fun _ h => h) ?_
                  refine xt (i := 4) (l' := [true, true, true, true, true]) rfl (by kernel_rfl) rfl rfl (fun w hK => (nt rfl)) hS <| ?_; refine xd (by kernel_rfl) <| thn <| ?_
                  refine cdP rfl (fun e5 => ?_) (fun e5 => ?_)
                  · exact absurd ⟨rfl, rfl⟩ e5
                  · have _ := trivial
                    refine sk <| thn <| sq <| rg <| ?_
                    refine vl (asv (v := .int _ _) rfl) <| nl <| thn <| sq <| rg <| vl mv <| vl (mvv (v := .int _ _) rfl) <| ?_
                    replace hK : K e w G7 (A0 ++ ((b13, row [.int .i64 (scanF ls ks (n, ts)).1.1, tg] 33) :: (b12, row [.int .i64 n, x2] 33) :: (b8, row [.int .i64 (scanF ls ks (n, ts)).1.1, tw] 33) :: (b5, row [.int .i64 n, t] 37) :: (A2 ++ (A1 ++ (Ag ++ L))))) := hK.cnt fun f => by simp only [List.map_append, List.map_cons, List.map_nil, List.sum_append, List.sum_cons, List.sum_nil]; omega
                    refine cl Try.call44 rfl (markLeaseS_c hK ho0 hl (by first | omega | (simp only; omega)) (by first | omega | (simp only; omega))) ?_
                    rintro _ w ⟨rfl, A0', hK⟩
                    replace hK : K e w G7 ((b13, row [.int .i64 (scanF ls ks (n, ts)).1.1, tg] 33) :: (b12, row [.int .i64 n, x2] 33) :: (b8, row [.int .i64 (scanF ls ks (n, ts)).1.1, tw] 33) :: (b5, row [.int .i64 n, t] 37) :: (A0' ++ (A2 ++ (A1 ++ (Ag ++ L))))) := hK.cnt fun f => by simp only [List.map_append, List.map_cons, List.map_nil, List.sum_append, List.sum_cons, List.sum_nil]; omega
                    refine vl (asv (v := .int _ _) rfl) <| nl <| thn <| sq <| rg <| vl mv <| vl (mvv (v := .int _ _) rfl) <| ?_
                    replace hK : K e w G7 (A1 ++ ((b13, row [.int .i64 (scanF ls ks (n, ts)).1.1, tg] 33) :: (b12, row [.int .i64 n, x2] 33) :: (b8, row [.int .i64 (scanF ls ks (n, ts)).1.1, tw] 33) :: (b5, row [.int .i64 n, t] 37) :: (A0' ++ (A2 ++ (Ag ++ L))))) := hK.cnt fun f => by simp only [List.map_append, List.map_cons, List.map_nil, List.sum_append, List.sum_cons, List.sum_nil]; omega
                    refine cl Try.call45 rfl (markIntS_c hK ho1 hlu (by first | omega | (simp only; omega)) (by first | omega | (simp only; omega))) ?_
                    rintro _ w ⟨rfl, A1', _, hK⟩
                    replace hK : K e w G7 ((b13, row [.int .i64 (scanF ls ks (n, ts)).1.1, tg] 33) :: (b12, row [.int .i64 n, x2] 33) :: (b8, row [.int .i64 (scanF ls ks (n, ts)).1.1, tw] 33) :: (b5, row [.int .i64 n, t] 37) :: (A1' ++ (A0' ++ (A2 ++ (Ag ++ L))))) := hK.cnt fun f => by simp only [List.map_append, List.map_cons, List.map_nil, List.sum_append, List.sum_cons, List.sum_nil]; omega
                    refine vl (asv (v := .int _ _) rfl) <| nl <| thn <| sq <| rg <| vl (lsO hK Ty.a33 Ty.s33 1 rfl rfl rfl) <| vl (mvv (v := .int _ _) rfl) <| ?_
                    replace hK : K e w G7 (A2 ++ ((b13, row [.int .i64 (scanF ls ks (n, ts)).1.1, tg] 33) :: (b12, row [.int .i64 n, x2] 33) :: (b8, row [.int .i64 (scanF ls ks (n, ts)).1.1, tw] 33) :: (b5, row [.int .i64 n, t] 37) :: (A1' ++ (A0' ++ (Ag ++ L))))) := hK.cnt fun f => by simp only [List.map_append, List.map_cons, List.map_nil, List.sum_append, List.sum_cons, List.sum_nil]; omega
                    refine cl Try.call52 rfl (markScan_c hK ho2 hlt (by first | omega | (simp only; omega)) (by first | omega | (simp only; omega))) ?_
                    rintro _ w ⟨rfl, A2', _, hK⟩
                    replace hK : K e w G7 ((b13, row [.int .i64 (scanF ls ks (n, ts)).1.1, tg] 33) :: (b12, row [.int .i64 n, x2] 33) :: (b8, row [.int .i64 (scanF ls ks (n, ts)).1.1, tw] 33) :: (b5, row [.int .i64 n, t] 37) :: (A2' ++ (A1' ++ (A0' ++ (Ag ++ L))))) := hK.cnt fun f => by simp only [List.map_append, List.map_cons, List.map_nil, List.sum_append, List.sum_cons, List.sum_nil]; omega
                    refine vl (asv (v := .int _ _) rfl) <| nl <| thn <| sq <| sq <| rg <| vl (mvv (v := .int _ _) rfl) <| vl (lt rfl rfl) <| vl (mvv (v := .bool _) rfl) <| ?_
                    refine splP (t := 91) rfl (fun e6 => ?_) (fun e6 => ?_)
                    · exfalso; omega
                    · have _ := trivial
                      refine gy rfl <| vl (lsO hK Ty.a33 Ty.s33 0 rfl rfl rfl) <| gy rfl <| vl (lsO hK Ty.a33 Ty.s33 2 rfl rfl rfl) <| gy rfl <| ?_
                      replace hK : K e w G7 (Ag ++ ((b13, row [.int .i64 (scanF ls ks (n, ts)).1.1, tg] 33) :: (b12, row [.int .i64 n, x2] 33) :: (b8, row [.int .i64 (scanF ls ks (n, ts)).1.1, tw] 33) :: (b5, row [.int .i64 n, t] 37) :: (A2' ++ (A1' ++ (A0' ++ L))))) := hK.cnt fun f => by simp only [List.map_append, List.map_cons, List.map_nil, List.sum_append, List.sum_cons, List.sum_nil]; omega
                      refine cl Try.call27 rfl (eqScan_o hK hog hw) ?_
                      rintro _ w ⟨rfl, hK⟩
                      replace hK : K e w G7 ((b13, row [.int .i64 (scanF ls ks (n, ts)).1.1, tg] 33) :: (b12, row [.int .i64 n, x2] 33) :: (b8, row [.int .i64 (scanF ls ks (n, ts)).1.1, tw] 33) :: (b5, row [.int .i64 n, t] 37) :: (Ag ++ (A2' ++ (A1' ++ (A0' ++ L))))) := hK.cnt fun f => by simp only [List.map_append, List.map_cons, List.map_nil, List.sum_append, List.sum_cons, List.sum_nil]; omega
                      refine gy rfl <| vl (nt rfl) <| vl (pk rfl) <| vl (mvv (v := .bool _) rfl) <| ?_
                      refine splP (t := 97) rfl (fun e7 => ?_) (fun e7 => ?_)
                      · exact absurd ⟨rfl, rfl⟩ e7
                      · have _ := trivial
                        refine gy rfl <| vl (mvv (v := .bool _) rfl) <| gy rfl <| vl (mvv (v := .bool _) rfl) <| gy rfl <| vl (neB Try.underlying4 rfl rfl) <| vl (pk rfl) <| nl <| thn <| ?_
                        refine cdB rfl (fun e8 => ?_) (fun e8 => ?_)
                        · simp at e8
                        · have _ := trivial
                          refine sk <| thn <| sq <| rg <| ?_
                          refine vl (asv (v := .int _ _) rfl) <| nl <| thn <| sq <| rg <| vl (lsO hK Ty.a33 Ty.s33 0 rfl rfl rfl) <| vl (mvv (v := .int _ _) rfl) <| ?_
                          replace hK : K e w G7 (Ag ++ ((b13, row [.int .i64 (scanF ls ks (n, ts)).1.1, tg] 33) :: (b12, row [.int .i64 n, x2] 33) :: (b8, row [.int .i64 (scanF ls ks (n, ts)).1.1, tw] 33) :: (b5, row [.int .i64 n, t] 37) :: (A2' ++ (A1' ++ (A0' ++ L))))) := hK.cnt fun f => by simp only [List.map_append, List.map_cons, List.map_nil, List.sum_append, List.sum_cons, List.sum_nil]; omega
                          refine cl Try.call52 rfl (markScan_c hK hog hzl (by first | omega | (simp only; omega)) (by first | omega | (simp only; omega))) ?_
                          rintro _ w ⟨rfl, Ag', hog', hK⟩
                          replace hK : K e w G7 ((b13, row [.int .i64 (scanF ls ks (n, ts)).1.1, tg] 33) :: (b12, row [.int .i64 n, x2] 33) :: (b8, row [.int .i64 (scanF ls ks (n, ts)).1.1, tw] 33) :: (b5, row [.int .i64 n, t] 37) :: (Ag' ++ (A2' ++ (A1' ++ (A0' ++ L))))) := hK.cnt fun f => by simp only [List.map_append, List.map_cons, List.map_nil, List.sum_append, List.sum_cons, List.sum_nil]; omega
                          refine vl (asv (v := .int _ _) rfl) <| nl <| thn <| sq <| rg <| vl (asv (v := .int _ _) rfl) <| nl <| thn <| sq <| rg <| vl (lsO hK Ty.a33 Ty.s33 0 rfl rfl rfl) <| vl (mvv (v := .int _ _) rfl) <| ?_
                          replace hK : K e w G7 (Ag' ++ ((b13, row [.int .i64 (scanF ls ks (n, ts)).1.1, tg] 33) :: (b12, row [.int .i64 n, x2] 33) :: (b8, row [.int .i64 (scanF ls ks (n, ts)).1.1, tw] 33) :: (b5, row [.int .i64 n, t] 37) :: (A2' ++ (A1' ++ (A0' ++ L))))) := hK.cnt fun f => by simp only [List.map_append, List.map_cons, List.map_nil, List.sum_append, List.sum_cons, List.sum_nil]; omega
                          refine cl Try.call53 rfl (heldScan_o (m := (scanF ls ks (n, ts)).1.2.length) hK hog' hzl (by first | omega | (simp only; omega)) (by first | omega | (simp only; omega))) ?_
                          rintro _ w ⟨rfl, hK⟩
                          replace hK : K e w G7 ((b13, row [.int .i64 (scanF ls ks (n, ts)).1.1, tg] 33) :: (b12, row [.int .i64 n, x2] 33) :: (b8, row [.int .i64 (scanF ls ks (n, ts)).1.1, tw] 33) :: (b5, row [.int .i64 n, t] 37) :: (Ag' ++ (A2' ++ (A1' ++ (A0' ++ L))))) := hK.cnt fun f => by simp only [List.map_append, List.map_cons, List.map_nil, List.sum_append, List.sum_cons, List.sum_nil]; omega
                          refine vl (asv (v := .int _ _) rfl) <| nl <| thn <| sq <| sq <| rg <| vl (mvv (v := .int _ _) rfl) <| vl (lt rfl rfl) <| nl <| thn <| ?_
                          refine cdP rfl (fun e9 => ?_) (fun e9 => ?_)
                          · exfalso; omega
                          · have _ := trivial
                            refine sk <| thn <| sq <| sq <| rg <| ?_
                            refine vl (mvv (v := .int _ _) rfl) <| vl (mvv (v := .int _ _) rfl) <| vl (ne rfl rfl) <| nl <| thn <| ?_
                            refine cdP rfl (fun e10 => ?_) (fun e10 => ?_)
                            · exfalso; omega
                            · have _ := trivial
                              refine sk <| thn <| sq <| ?_
                              refine ct (σ := Nat × Value × View) (fun s => [(8, .pointer (some ⟨b8, 0, none⟩)), (9, .bool (scanF ls ks (n, ts)).2), (13, .pointer (some ⟨b13, 0, none⟩)), (16, .int .i64 (1 + ((scanF ls ks (n, ts)).1.2.length : Int))), (18, .pointer (some ⟨s.1, 0, none⟩)), (19, .bool (scanF ls ks (n, ts)).2)]) (fun s w => VLe G7 s.2.2 ∧ IntS s.2.2 s.2.1 (scanF ls ks (n, ts)).1.2 ∧ K e w s.2.2 ((s.1, row [.int .i64 (scanF ls ks (n, ts)).1.1, s.2.1] 33) :: (b13, row [.int .i64 (scanF ls ks (n, ts)).1.1, tg] 33) :: (b12, row [.int .i64 n, x2] 33) :: (b8, row [.int .i64 (scanF ls ks (n, ts)).1.1, tw] 33) :: (b5, row [.int .i64 n, t] 37) :: (Ag' ++ (A2' ++ (A1' ++ (A0' ++ L)))))) ?_ ?_
                              · refine rgs (fun w => K e w G7 ((b5, row [.int .i64 n, t] 37) :: L)) (fun w => K _ w _ _) [false, false, false, false, false, false, false, false, false, false, false, false, false] 13 Ty.mixed rfl rfl (hK.drawn _) ?_
                                intro w hK
                                have hS : (fun w => K e w G7 ((b5, row [.int .i64 n, t] 37) :: L)) w := K.sl hK (by repeat' (first | exact List.Sublist.refl _ | refine List.Sublist.cons_cons _ ?_ | refine List.Sublist.cons _ ?_ | refine List.Sublist.trans ?_ (List.sublist_append_right _ _)))
                                refine xt (i := 0) (l' := [true, false, false, false, false, false, false, false, false, false, false, false, false]) rfl (by kernel_rfl) rfl rfl (fun w hK => mv) hS <| ?_; refine xt (i := 2) (l' := [true, false, true, false, false, false, false, false, false, false, false, false, false]) rfl (by kernel_rfl) rfl rfl (fun w hK => mv) hS <| ?_; refine xt (i := 4) (l' := [true, false, true, false, true, false, false, false, false, false, false, false, false]) rfl (by kernel_rfl) rfl rfl (fun w hK => (lsO hK Ty.a37 Ty.s37 0 rfl rfl rfl)) hS <| ?_
                                refine xe2 (i := 1) (j := 10) (l' := [true, true, true, false, true, false, false, false, false, false, false, false, false]) (l2 := [true, false, true, false, true, false, false, false, false, false, true, false, false]) (by kernel_rfl) rfl rfl rfl rfl ?_ ?_
                                · skip
                                  refine cl Try.call40 rfl (toLeaseS_v hK hv hl) ?_
                                  rintro vc w ⟨G8, hG8, hvc, hK⟩
                                  replace hS : (fun w => K e w G7 ((b5, row [.int .i64 n, t] 37) :: L)) w := (by first | exact K.vle (K.sl hK (by repeat' (first | exact List.Sublist.refl _ | refine List.Sublist.cons_cons _ ?_ | refine List.Sublist.cons _ ?_ | refine List.Sublist.trans ?_ (List.sublist_append_right _ _)))) hG8 | exact K.vle (K.sl (K.drop1 hK) (by repeat' (first | exact List.Sublist.refl _ | refine List.Sublist.cons_cons _ ?_ | refine List.Sublist.cons _ ?_ | refine List.Sublist.trans ?_ (List.sublist_append_right _ _)))) hG8)
                                  refine xn (fun w => K e w G7 ((b5, row [.int .i64 n, t] 37) :: L)) hS (fun _ h => h) ?_
                                  refine xe2 (i := 3) (j := 10) (l' := [true, true, true, true, true, false, false, false, false, false, false, false, false]) (l2 := [true, true, true, false, true, false, false, false, false, false, true, false, false]) (by kernel_rfl) rfl rfl rfl rfl ?_ ?_
                                  · skip
                                    refine cl Try.call41 rfl (toIntS_v hK (hu.mono hG8) hlu) ?_
                                    rintro uc w ⟨G9, hG9, huc, hK⟩
                                    replace hS : (fun w => K e w G7 ((b5, row [.int .i64 n, t] 37) :: L)) w := (by first | exact K.vle (K.sl hK (by repeat' (first | exact List.Sublist.refl _ | refine List.Sublist.cons_cons _ ?_ | refine List.Sublist.cons _ ?_ | refine List.Sublist.trans ?_ (List.sublist_append_right _ _)))) (hG8.trans hG9) | exact K.vle (K.sl (K.drop1 hK) (by repeat' (first | exact List.Sublist.refl _ | refine List.Sublist.cons_cons _ ?_ | refine List.Sublist.cons _ ?_ | refine List.Sublist.trans ?_ (List.sublist_append_right _ _)))) (hG8.trans hG9))
                                    refine xn (fun w => K e w G7 ((b5, row [.int .i64 n, t] 37) :: L)) hS (fun _ h => h) ?_
                                    refine xe2 (i := 5) (j := 10) (l' := [true, true, true, true, true, true, false, false, false, false, false, false, false]) (l2 := [true, true, true, true, true, false, false, false, false, false, true, false, false]) (by kernel_rfl) rfl rfl rfl rfl ?_ ?_
                                    · skip
                                      refine cl Try.call26 rfl (toScan_v hK (ht.mono (hG8.trans hG9)) hlt) ?_
                                      rintro _ w ⟨G10, tc, rfl, hG10, htc, hK⟩
                                      replace hS : (fun w => K e w G7 ((b5, row [.int .i64 n, t] 37) :: L)) w := (by first | exact K.vle (K.sl hK (by repeat' (first | exact List.Sublist.refl _ | refine List.Sublist.cons_cons _ ?_ | refine List.Sublist.cons _ ?_ | refine List.Sublist.trans ?_ (List.sublist_append_right _ _)))) ((hG8.trans hG9).trans hG10) | exact K.vle (K.sl (K.drop1 hK) (by repeat' (first | exact List.Sublist.refl _ | refine List.Sublist.cons_cons _ ?_ | refine List.Sublist.cons _ ?_ | refine List.Sublist.trans ?_ (List.sublist_append_right _ _)))) ((hG8.trans hG9).trans hG10))
                                      refine xn (fun w => K e w G7 ((b5, row [.int .i64 n, t] 37) :: L)) hS (fun _ h => h) ?_
                                      refine xe2 (i := 6) (j := 10) (l' := [true, true, true, true, true, true, true, false, false, false, false, false, false]) (l2 := [true, true, true, true, true, true, false, false, false, false, true, false, false]) (by kernel_rfl) rfl rfl rfl rfl ?_ ?_
                                      · skip
                                        refine cl Try.call32 rfl (implScanStep_v hK (hvc.mono (hG9.trans hG10)) (huc.mono hG10) htc (by first | omega | (simp only; omega))) ?_
                                        rintro _ w ⟨G11, tz, rfl, hG11, hz, hK⟩
                                        replace hS : (fun w => K e w G7 ((b5, row [.int .i64 n, t] 37) :: L)) w := (by first | exact K.vle (K.sl hK (by repeat' (first | exact List.Sublist.refl _ | refine List.Sublist.cons_cons _ ?_ | refine List.Sublist.cons _ ?_ | refine List.Sublist.trans ?_ (List.sublist_append_right _ _)))) (((hG8.trans hG9).trans hG10).trans hG11) | exact K.vle (K.sl (K.drop1 hK) (by repeat' (first | exact List.Sublist.refl _ | refine List.Sublist.cons_cons _ ?_ | refine List.Sublist.cons _ ?_ | refine List.Sublist.trans ?_ (List.sublist_append_right _ _)))) (((hG8.trans hG9).trans hG10).trans hG11))
                                        refine xn (fun w => K e w G7 ((b5, row [.int .i64 n, t] 37) :: L)) hS (fun _ h => h) ?_
                                        refine xt (i := 7) (l' := [true, true, true, true, true, true, true, true, false, false, false, false, false]) rfl (by kernel_rfl) rfl rfl (fun w hK => mv) hS <| ?_; refine xt (i := 8) (l' := [true, true, true, true, true, true, true, true, true, false, false, false, false]) rfl (by kernel_rfl) rfl rfl (fun w hK => (ext rfl rfl)) hS <| ?_; refine xt (i := 9) (l' := [true, true, true, true, true, true, true, true, true, true, false, false, false]) rfl (by kernel_rfl) rfl rfl (fun w hK => (ext rfl rfl)) hS <| ?_
                                        refine xe (i := 10) (l' := [true, true, true, true, true, true, true, true, true, true, true, false, false]) (by kernel_rfl) rfl rfl ?_
                                        refine al hK Ty.i33 rfl ?_
                                        intro b18 w hK
                                        replace hS : (fun w => K e w G7 ((b5, row [.int .i64 n, t] 37) :: L)) w := (by first | exact K.vle (K.sl hK (by repeat' (first | exact List.Sublist.refl _ | refine List.Sublist.cons_cons _ ?_ | refine List.Sublist.cons _ ?_ | refine List.Sublist.trans ?_ (List.sublist_append_right _ _)))) (((hG8.trans hG9).trans hG10).trans hG11) | exact K.vle (K.sl (K.drop1 hK) (by repeat' (first | exact List.Sublist.refl _ | refine List.Sublist.cons_cons _ ?_ | refine List.Sublist.cons _ ?_ | refine List.Sublist.trans ?_ (List.sublist_append_right _ _)))) (((hG8.trans hG9).trans hG10).trans hG11))
                                        refine xn (fun w => K e w G7 ((b5, row [.int .i64 n, t] 37) :: L)) hS (fun _ h => h) ?_
                                        refine xe (i := 11) (l' := [true, true, true, true, true, true, true, true, true, true, true, true, false]) (by kernel_rfl) rfl rfl ?_
                                        refine soS hK Ty.i33 0 rfl rfl rfl rfl (allc rfl (allc hz.1.one rfl)) rfl ?_
                                        intro w hK
                                        replace hS : (fun w => K e w G7 ((b5, row [.int .i64 n, t] 37) :: L)) w := (by first | exact K.vle (K.sl hK (by repeat' (first | exact List.Sublist.refl _ | refine List.Sublist.cons_cons _ ?_ | refine List.Sublist.cons _ ?_ | refine List.Sublist.trans ?_ (List.sublist_append_right _ _)))) (((hG8.trans hG9).trans hG10).trans hG11) | exact K.vle (K.sl (K.drop1 hK) (by repeat' (first | exact List.Sublist.refl _ | refine List.Sublist.cons_cons _ ?_ | refine List.Sublist.cons _ ?_ | refine List.Sublist.trans ?_ (List.sublist_append_right _ _)))) (((hG8.trans hG9).trans hG10).trans hG11))
                                        refine xn (fun w => K e w G7 ((b5, row [.int .i64 n, t] 37) :: L)) hS (fun _ h => h) ?_
                                        refine xt (i := 12) (l' := [true, true, true, true, true, true, true, true, true, true, true, true, true]) rfl (by kernel_rfl) rfl rfl (fun w hK => (asv (v := .bool _) rfl)) hS <| ?_; refine xd (by kernel_rfl) <| ctn <| ?_
                                        exact ⟨(b18, tz, G11), ⟨rfl, rfl, rfl, rfl, rfl, rfl, trivial⟩, (((hG8.trans hG9).trans hG10).trans hG11), hz, hK⟩
                                      · refine al hK Ty.i33 rfl ?_
                                        intro b18 w hK
                                        replace hS : (fun w => K e w G7 ((b5, row [.int .i64 n, t] 37) :: L)) w := (by first | exact K.vle (K.sl hK (by repeat' (first | exact List.Sublist.refl _ | refine List.Sublist.cons_cons _ ?_ | refine List.Sublist.cons _ ?_ | refine List.Sublist.trans ?_ (List.sublist_append_right _ _)))) ((hG8.trans hG9).trans hG10) | exact K.vle (K.sl (K.drop1 hK) (by repeat' (first | exact List.Sublist.refl _ | refine List.Sublist.cons_cons _ ?_ | refine List.Sublist.cons _ ?_ | refine List.Sublist.trans ?_ (List.sublist_append_right _ _)))) ((hG8.trans hG9).trans hG10))
                                        refine xn (fun w => K e w G7 ((b5, row [.int .i64 n, t] 37) :: L)) hS (fun _ h => h) ?_
                                        refine xe (i := 6) (l' := [true, true, true, true, true, true, true, false, false, false, true, false, false]) (by kernel_rfl) rfl rfl ?_
                                        refine cl Try.call32 rfl (implScanStep_v hK (hvc.mono (hG9.trans hG10)) (huc.mono hG10) htc (by first | omega | (simp only; omega))) ?_
                                        rintro _ w ⟨G11, tz, rfl, hG11, hz, hK⟩
                                        replace hS : (fun w => K e w G7 ((b5, row [.int .i64 n, t] 37) :: L)) w := (by first | exact K.vle (K.sl hK (by repeat' (first | exact List.Sublist.refl _ | refine List.Sublist.cons_cons _ ?_ | refine List.Sublist.cons _ ?_ | refine List.Sublist.trans ?_ (List.sublist_append_right _ _)))) (((hG8.trans hG9).trans hG10).trans hG11) | exact K.vle (K.sl (K.drop1 hK) (by repeat' (first | exact List.Sublist.refl _ | refine List.Sublist.cons_cons _ ?_ | refine List.Sublist.cons _ ?_ | refine List.Sublist.trans ?_ (List.sublist_append_right _ _)))) (((hG8.trans hG9).trans hG10).trans hG11))
                                        refine xn (fun w => K e w G7 ((b5, row [.int .i64 n, t] 37) :: L)) hS (fun _ h => h) ?_
                                        refine xt (i := 7) (l' := [true, true, true, true, true, true, true, true, false, false, true, false, false]) rfl (by kernel_rfl) rfl rfl (fun w hK => mv) hS <| ?_; refine xt (i := 8) (l' := [true, true, true, true, true, true, true, true, true, false, true, false, false]) rfl (by kernel_rfl) rfl rfl (fun w hK => (ext rfl rfl)) hS <| ?_; refine xt (i := 9) (l' := [true, true, true, true, true, true, true, true, true, true, true, false, false]) rfl (by kernel_rfl) rfl rfl (fun w hK => (ext rfl rfl)) hS <| ?_
                                        refine xe (i := 11) (l' := [true, true, true, true, true, true, true, true, true, true, true, true, false]) (by kernel_rfl) rfl rfl ?_
                                        refine soS hK Ty.i33 0 rfl rfl rfl rfl (allc rfl (allc hz.1.one rfl)) rfl ?_
                                        intro w hK
                                        replace hS : (fun w => K e w G7 ((b5, row [.int .i64 n, t] 37) :: L)) w := (by first | exact K.vle (K.sl hK (by repeat' (first | exact List.Sublist.refl _ | refine List.Sublist.cons_cons _ ?_ | refine List.Sublist.cons _ ?_ | refine List.Sublist.trans ?_ (List.sublist_append_right _ _)))) (((hG8.trans hG9).trans hG10).trans hG11) | exact K.vle (K.sl (K.drop1 hK) (by repeat' (first | exact List.Sublist.refl _ | refine List.Sublist.cons_cons _ ?_ | refine List.Sublist.cons _ ?_ | refine List.Sublist.trans ?_ (List.sublist_append_right _ _)))) (((hG8.trans hG9).trans hG10).trans hG11))
                                        refine xn (fun w => K e w G7 ((b5, row [.int .i64 n, t] 37) :: L)) hS (fun _ h => h) ?_
                                        refine xt (i := 12) (l' := [true, true, true, true, true, true, true, true, true, true, true, true, true]) rfl (by kernel_rfl) rfl rfl (fun w hK => (asv (v := .bool _) rfl)) hS <| ?_; refine xd (by kernel_rfl) <| ctn <| ?_
                                        exact ⟨(b18, tz, G11), ⟨rfl, rfl, rfl, rfl, rfl, rfl, trivial⟩, (((hG8.trans hG9).trans hG10).trans hG11), hz, hK⟩
                                    · refine al hK Ty.i33 rfl ?_
                                      intro b18 w hK
                                      replace hS : (fun w => K e w G7 ((b5, row [.int .i64 n, t] 37) :: L)) w := (by first | exact K.vle (K.sl hK (by repeat' (first | exact List.Sublist.refl _ | refine List.Sublist.cons_cons _ ?_ | refine List.Sublist.cons _ ?_ | refine List.Sublist.trans ?_ (List.sublist_append_right _ _)))) (hG8.trans hG9) | exact K.vle (K.sl (K.drop1 hK) (by repeat' (first | exact List.Sublist.refl _ | refine List.Sublist.cons_cons _ ?_ | refine List.Sublist.cons _ ?_ | refine List.Sublist.trans ?_ (List.sublist_append_right _ _)))) (hG8.trans hG9))
                                      refine xn (fun w => K e w G7 ((b5, row [.int .i64 n, t] 37) :: L)) hS (fun _ h => h) ?_
                                      refine xe (i := 5) (l' := [true, true, true, true, true, true, false, false, false, false, true, false, false]) (by kernel_rfl) rfl rfl ?_
                                      refine cl Try.call26 rfl (toScan_v hK (ht.mono (hG8.trans hG9)) hlt) ?_
                                      rintro _ w ⟨G10, tc, rfl, hG10, htc, hK⟩
                                      replace hS : (fun w => K e w G7 ((b5, row [.int .i64 n, t] 37) :: L)) w := (by first | exact K.vle (K.sl hK (by repeat' (first | exact List.Sublist.refl _ | refine List.Sublist.cons_cons _ ?_ | refine List.Sublist.cons _ ?_ | refine List.Sublist.trans ?_ (List.sublist_append_right _ _)))) ((hG8.trans hG9).trans hG10) | exact K.vle (K.sl (K.drop1 hK) (by repeat' (first | exact List.Sublist.refl _ | refine List.Sublist.cons_cons _ ?_ | refine List.Sublist.cons _ ?_ | refine List.Sublist.trans ?_ (List.sublist_append_right _ _)))) ((hG8.trans hG9).trans hG10))
                                      refine xn (fun w => K e w G7 ((b5, row [.int .i64 n, t] 37) :: L)) hS (fun _ h => h) ?_
                                      refine xe (i := 6) (l' := [true, true, true, true, true, true, true, false, false, false, true, false, false]) (by kernel_rfl) rfl rfl ?_
                                      refine cl Try.call32 rfl (implScanStep_v hK (hvc.mono (hG9.trans hG10)) (huc.mono hG10) htc (by first | omega | (simp only; omega))) ?_
                                      rintro _ w ⟨G11, tz, rfl, hG11, hz, hK⟩
                                      replace hS : (fun w => K e w G7 ((b5, row [.int .i64 n, t] 37) :: L)) w := (by first | exact K.vle (K.sl hK (by repeat' (first | exact List.Sublist.refl _ | refine List.Sublist.cons_cons _ ?_ | refine List.Sublist.cons _ ?_ | refine List.Sublist.trans ?_ (List.sublist_append_right _ _)))) (((hG8.trans hG9).trans hG10).trans hG11) | exact K.vle (K.sl (K.drop1 hK) (by repeat' (first | exact List.Sublist.refl _ | refine List.Sublist.cons_cons _ ?_ | refine List.Sublist.cons _ ?_ | refine List.Sublist.trans ?_ (List.sublist_append_right _ _)))) (((hG8.trans hG9).trans hG10).trans hG11))
                                      refine xn (fun w => K e w G7 ((b5, row [.int .i64 n, t] 37) :: L)) hS (fun _ h => h) ?_
                                      refine xt (i := 7) (l' := [true, true, true, true, true, true, true, true, false, false, true, false, false]) rfl (by kernel_rfl) rfl rfl (fun w hK => mv) hS <| ?_; refine xt (i := 8) (l' := [true, true, true, true, true, true, true, true, true, false, true, false, false]) rfl (by kernel_rfl) rfl rfl (fun w hK => (ext rfl rfl)) hS <| ?_; refine xt (i := 9) (l' := [true, true, true, true, true, true, true, true, true, true, true, false, false]) rfl (by kernel_rfl) rfl rfl (fun w hK => (ext rfl rfl)) hS <| ?_
                                      refine xe (i := 11) (l' := [true, true, true, true, true, true, true, true, true, true, true, true, false]) (by kernel_rfl) rfl rfl ?_
                                      refine soS hK Ty.i33 0 rfl rfl rfl rfl (allc rfl (allc hz.1.one rfl)) rfl ?_
                                      intro w hK
                                      replace hS : (fun w => K e w G7 ((b5, row [.int .i64 n, t] 37) :: L)) w := (by first | exact K.vle (K.sl hK (by repeat' (first | exact List.Sublist.refl _ | refine List.Sublist.cons_cons _ ?_ | refine List.Sublist.cons _ ?_ | refine List.Sublist.trans ?_ (List.sublist_append_right _ _)))) (((hG8.trans hG9).trans hG10).trans hG11) | exact K.vle (K.sl (K.drop1 hK) (by repeat' (first | exact List.Sublist.refl _ | refine List.Sublist.cons_cons _ ?_ | refine List.Sublist.cons _ ?_ | refine List.Sublist.trans ?_ (List.sublist_append_right _ _)))) (((hG8.trans hG9).trans hG10).trans hG11))
                                      refine xn (fun w => K e w G7 ((b5, row [.int .i64 n, t] 37) :: L)) hS (fun _ h => h) ?_
                                      refine xt (i := 12) (l' := [true, true, true, true, true, true, true, true, true, true, true, true, true]) rfl (by kernel_rfl) rfl rfl (fun w hK => (asv (v := .bool _) rfl)) hS <| ?_; refine xd (by kernel_rfl) <| ctn <| ?_
                                      exact ⟨(b18, tz, G11), ⟨rfl, rfl, rfl, rfl, rfl, rfl, trivial⟩, (((hG8.trans hG9).trans hG10).trans hG11), hz, hK⟩
                                  · refine al hK Ty.i33 rfl ?_
                                    intro b18 w hK
                                    replace hS : (fun w => K e w G7 ((b5, row [.int .i64 n, t] 37) :: L)) w := (by first | exact K.vle (K.sl hK (by repeat' (first | exact List.Sublist.refl _ | refine List.Sublist.cons_cons _ ?_ | refine List.Sublist.cons _ ?_ | refine List.Sublist.trans ?_ (List.sublist_append_right _ _)))) hG8 | exact K.vle (K.sl (K.drop1 hK) (by repeat' (first | exact List.Sublist.refl _ | refine List.Sublist.cons_cons _ ?_ | refine List.Sublist.cons _ ?_ | refine List.Sublist.trans ?_ (List.sublist_append_right _ _)))) hG8)
                                    refine xn (fun w => K e w G7 ((b5, row [.int .i64 n, t] 37) :: L)) hS (fun _ h => h) ?_
                                    refine xe (i := 3) (l' := [true, true, true, true, true, false, false, false, false, false, true, false, false]) (by kernel_rfl) rfl rfl ?_
                                    refine cl Try.call41 rfl (toIntS_v hK (hu.mono hG8) hlu) ?_
                                    rintro uc w ⟨G9, hG9, huc, hK⟩
                                    replace hS : (fun w => K e w G7 ((b5, row [.int .i64 n, t] 37) :: L)) w := (by first | exact K.vle (K.sl hK (by repeat' (first | exact List.Sublist.refl _ | refine List.Sublist.cons_cons _ ?_ | refine List.Sublist.cons _ ?_ | refine List.Sublist.trans ?_ (List.sublist_append_right _ _)))) (hG8.trans hG9) | exact K.vle (K.sl (K.drop1 hK) (by repeat' (first | exact List.Sublist.refl _ | refine List.Sublist.cons_cons _ ?_ | refine List.Sublist.cons _ ?_ | refine List.Sublist.trans ?_ (List.sublist_append_right _ _)))) (hG8.trans hG9))
                                    refine xn (fun w => K e w G7 ((b5, row [.int .i64 n, t] 37) :: L)) hS (fun _ h => h) ?_
                                    refine xe (i := 5) (l' := [true, true, true, true, true, true, false, false, false, false, true, false, false]) (by kernel_rfl) rfl rfl ?_
                                    refine cl Try.call26 rfl (toScan_v hK (ht.mono (hG8.trans hG9)) hlt) ?_
                                    rintro _ w ⟨G10, tc, rfl, hG10, htc, hK⟩
                                    replace hS : (fun w => K e w G7 ((b5, row [.int .i64 n, t] 37) :: L)) w := (by first | exact K.vle (K.sl hK (by repeat' (first | exact List.Sublist.refl _ | refine List.Sublist.cons_cons _ ?_ | refine List.Sublist.cons _ ?_ | refine List.Sublist.trans ?_ (List.sublist_append_right _ _)))) ((hG8.trans hG9).trans hG10) | exact K.vle (K.sl (K.drop1 hK) (by repeat' (first | exact List.Sublist.refl _ | refine List.Sublist.cons_cons _ ?_ | refine List.Sublist.cons _ ?_ | refine List.Sublist.trans ?_ (List.sublist_append_right _ _)))) ((hG8.trans hG9).trans hG10))
                                    refine xn (fun w => K e w G7 ((b5, row [.int .i64 n, t] 37) :: L)) hS (fun _ h => h) ?_
                                    refine xe (i := 6) (l' := [true, true, true, true, true, true, true, false, false, false, true, false, false]) (by kernel_rfl) rfl rfl ?_
                                    refine cl Try.call32 rfl (implScanStep_v hK (hvc.mono (hG9.trans hG10)) (huc.mono hG10) htc (by first | omega | (simp only; omega))) ?_
                                    rintro _ w ⟨G11, tz, rfl, hG11, hz, hK⟩
                                    replace hS : (fun w => K e w G7 ((b5, row [.int .i64 n, t] 37) :: L)) w := (by first | exact K.vle (K.sl hK (by repeat' (first | exact List.Sublist.refl _ | refine List.Sublist.cons_cons _ ?_ | refine List.Sublist.cons _ ?_ | refine List.Sublist.trans ?_ (List.sublist_append_right _ _)))) (((hG8.trans hG9).trans hG10).trans hG11) | exact K.vle (K.sl (K.drop1 hK) (by repeat' (first | exact List.Sublist.refl _ | refine List.Sublist.cons_cons _ ?_ | refine List.Sublist.cons _ ?_ | refine List.Sublist.trans ?_ (List.sublist_append_right _ _)))) (((hG8.trans hG9).trans hG10).trans hG11))
                                    refine xn (fun w => K e w G7 ((b5, row [.int .i64 n, t] 37) :: L)) hS (fun _ h => h) ?_
                                    refine xt (i := 7) (l' := [true, true, true, true, true, true, true, true, false, false, true, false, false]) rfl (by kernel_rfl) rfl rfl (fun w hK => mv) hS <| ?_; refine xt (i := 8) (l' := [true, true, true, true, true, true, true, true, true, false, true, false, false]) rfl (by kernel_rfl) rfl rfl (fun w hK => (ext rfl rfl)) hS <| ?_; refine xt (i := 9) (l' := [true, true, true, true, true, true, true, true, true, true, true, false, false]) rfl (by kernel_rfl) rfl rfl (fun w hK => (ext rfl rfl)) hS <| ?_
                                    refine xe (i := 11) (l' := [true, true, true, true, true, true, true, true, true, true, true, true, false]) (by kernel_rfl) rfl rfl ?_
                                    refine soS hK Ty.i33 0 rfl rfl rfl rfl (allc rfl (allc hz.1.one rfl)) rfl ?_
                                    intro w hK
                                    replace hS : (fun w => K e w G7 ((b5, row [.int .i64 n, t] 37) :: L)) w := (by first | exact K.vle (K.sl hK (by repeat' (first | exact List.Sublist.refl _ | refine List.Sublist.cons_cons _ ?_ | refine List.Sublist.cons _ ?_ | refine List.Sublist.trans ?_ (List.sublist_append_right _ _)))) (((hG8.trans hG9).trans hG10).trans hG11) | exact K.vle (K.sl (K.drop1 hK) (by repeat' (first | exact List.Sublist.refl _ | refine List.Sublist.cons_cons _ ?_ | refine List.Sublist.cons _ ?_ | refine List.Sublist.trans ?_ (List.sublist_append_right _ _)))) (((hG8.trans hG9).trans hG10).trans hG11))
                                    refine xn (fun w => K e w G7 ((b5, row [.int .i64 n, t] 37) :: L)) hS (fun _ h => h) ?_
                                    refine xt (i := 12) (l' := [true, true, true, true, true, true, true, true, true, true, true, true, true]) rfl (by kernel_rfl) rfl rfl (fun w hK => (asv (v := .bool _) rfl)) hS <| ?_; refine xd (by kernel_rfl) <| ctn <| ?_
                                    exact ⟨(b18, tz, G11), ⟨rfl, rfl, rfl, rfl, rfl, rfl, trivial⟩, (((hG8.trans hG9).trans hG10).trans hG11), hz, hK⟩
                                · refine al hK Ty.i33 rfl ?_
                                  intro b18 w hK
                                  replace hS : (fun w => K e w G7 ((b5, row [.int .i64 n, t] 37) :: L)) w := K.sl hK (by repeat' (first | exact List.Sublist.refl _ | refine List.Sublist.cons_cons _ ?_ | refine List.Sublist.cons _ ?_ | refine List.Sublist.trans ?_ (List.sublist_append_right _ _)))
                                  refine xn (fun w => K e w G7 ((b5, row [.int .i64 n, t] 37) :: L)) hS (fun _ h => h) ?_
                                  refine xe (i := 1) (l' := [true, true, true, false, true, false, false, false, false, false, true, false, false]) (by kernel_rfl) rfl rfl ?_
                                  refine cl Try.call40 rfl (toLeaseS_v hK hv hl) ?_
                                  rintro vc w ⟨G8, hG8, hvc, hK⟩
                                  replace hS : (fun w => K e w G7 ((b5, row [.int .i64 n, t] 37) :: L)) w := (by first | exact K.vle (K.sl hK (by repeat' (first | exact List.Sublist.refl _ | refine List.Sublist.cons_cons _ ?_ | refine List.Sublist.cons _ ?_ | refine List.Sublist.trans ?_ (List.sublist_append_right _ _)))) hG8 | exact K.vle (K.sl (K.drop1 hK) (by repeat' (first | exact List.Sublist.refl _ | refine List.Sublist.cons_cons _ ?_ | refine List.Sublist.cons _ ?_ | refine List.Sublist.trans ?_ (List.sublist_append_right _ _)))) hG8)
                                  refine xn (fun w => K e w G7 ((b5, row [.int .i64 n, t] 37) :: L)) hS (fun _ h => h) ?_
                                  refine xe (i := 3) (l' := [true, true, true, true, true, false, false, false, false, false, true, false, false]) (by kernel_rfl) rfl rfl ?_
                                  refine cl Try.call41 rfl (toIntS_v hK (hu.mono hG8) hlu) ?_
                                  rintro uc w ⟨G9, hG9, huc, hK⟩
                                  replace hS : (fun w => K e w G7 ((b5, row [.int .i64 n, t] 37) :: L)) w := (by first | exact K.vle (K.sl hK (by repeat' (first | exact List.Sublist.refl _ | refine List.Sublist.cons_cons _ ?_ | refine List.Sublist.cons _ ?_ | refine List.Sublist.trans ?_ (List.sublist_append_right _ _)))) (hG8.trans hG9) | exact K.vle (K.sl (K.drop1 hK) (by repeat' (first | exact List.Sublist.refl _ | refine List.Sublist.cons_cons _ ?_ | refine List.Sublist.cons _ ?_ | refine List.Sublist.trans ?_ (List.sublist_append_right _ _)))) (hG8.trans hG9))
                                  refine xn (fun w => K e w G7 ((b5, row [.int .i64 n, t] 37) :: L)) hS (fun _ h => h) ?_
                                  refine xe (i := 5) (l' := [true, true, true, true, true, true, false, false, false, false, true, false, false]) (by kernel_rfl) rfl rfl ?_
                                  refine cl Try.call26 rfl (toScan_v hK (ht.mono (hG8.trans hG9)) hlt) ?_
                                  rintro _ w ⟨G10, tc, rfl, hG10, htc, hK⟩
                                  replace hS : (fun w => K e w G7 ((b5, row [.int .i64 n, t] 37) :: L)) w := (by first | exact K.vle (K.sl hK (by repeat' (first | exact List.Sublist.refl _ | refine List.Sublist.cons_cons _ ?_ | refine List.Sublist.cons _ ?_ | refine List.Sublist.trans ?_ (List.sublist_append_right _ _)))) ((hG8.trans hG9).trans hG10) | exact K.vle (K.sl (K.drop1 hK) (by repeat' (first | exact List.Sublist.refl _ | refine List.Sublist.cons_cons _ ?_ | refine List.Sublist.cons _ ?_ | refine List.Sublist.trans ?_ (List.sublist_append_right _ _)))) ((hG8.trans hG9).trans hG10))
                                  refine xn (fun w => K e w G7 ((b5, row [.int .i64 n, t] 37) :: L)) hS (fun _ h => h) ?_
                                  refine xe (i := 6) (l' := [true, true, true, true, true, true, true, false, false, false, true, false, false]) (by kernel_rfl) rfl rfl ?_
                                  refine cl Try.call32 rfl (implScanStep_v hK (hvc.mono (hG9.trans hG10)) (huc.mono hG10) htc (by first | omega | (simp only; omega))) ?_
                                  rintro _ w ⟨G11, tz, rfl, hG11, hz, hK⟩
                                  replace hS : (fun w => K e w G7 ((b5, row [.int .i64 n, t] 37) :: L)) w := (by first | exact K.vle (K.sl hK (by repeat' (first | exact List.Sublist.refl _ | refine List.Sublist.cons_cons _ ?_ | refine List.Sublist.cons _ ?_ | refine List.Sublist.trans ?_ (List.sublist_append_right _ _)))) (((hG8.trans hG9).trans hG10).trans hG11) | exact K.vle (K.sl (K.drop1 hK) (by repeat' (first | exact List.Sublist.refl _ | refine List.Sublist.cons_cons _ ?_ | refine List.Sublist.cons _ ?_ | refine List.Sublist.trans ?_ (List.sublist_append_right _ _)))) (((hG8.trans hG9).trans hG10).trans hG11))
                                  refine xn (fun w => K e w G7 ((b5, row [.int .i64 n, t] 37) :: L)) hS (fun _ h => h) ?_
                                  refine xt (i := 7) (l' := [true, true, true, true, true, true, true, true, false, false, true, false, false]) rfl (by kernel_rfl) rfl rfl (fun w hK => mv) hS <| ?_; refine xt (i := 8) (l' := [true, true, true, true, true, true, true, true, true, false, true, false, false]) rfl (by kernel_rfl) rfl rfl (fun w hK => (ext rfl rfl)) hS <| ?_; refine xt (i := 9) (l' := [true, true, true, true, true, true, true, true, true, true, true, false, false]) rfl (by kernel_rfl) rfl rfl (fun w hK => (ext rfl rfl)) hS <| ?_
                                  refine xe (i := 11) (l' := [true, true, true, true, true, true, true, true, true, true, true, true, false]) (by kernel_rfl) rfl rfl ?_
                                  refine soS hK Ty.i33 0 rfl rfl rfl rfl (allc rfl (allc hz.1.one rfl)) rfl ?_
                                  intro w hK
                                  replace hS : (fun w => K e w G7 ((b5, row [.int .i64 n, t] 37) :: L)) w := (by first | exact K.vle (K.sl hK (by repeat' (first | exact List.Sublist.refl _ | refine List.Sublist.cons_cons _ ?_ | refine List.Sublist.cons _ ?_ | refine List.Sublist.trans ?_ (List.sublist_append_right _ _)))) (((hG8.trans hG9).trans hG10).trans hG11) | exact K.vle (K.sl (K.drop1 hK) (by repeat' (first | exact List.Sublist.refl _ | refine List.Sublist.cons_cons _ ?_ | refine List.Sublist.cons _ ?_ | refine List.Sublist.trans ?_ (List.sublist_append_right _ _)))) (((hG8.trans hG9).trans hG10).trans hG11))
                                  refine xn (fun w => K e w G7 ((b5, row [.int .i64 n, t] 37) :: L)) hS (fun _ h => h) ?_
                                  refine xt (i := 12) (l' := [true, true, true, true, true, true, true, true, true, true, true, true, true]) rfl (by kernel_rfl) rfl rfl (fun w hK => (asv (v := .bool _) rfl)) hS <| ?_; refine xd (by kernel_rfl) <| ctn <| ?_
                                  exact ⟨(b18, tz, G11), ⟨rfl, rfl, rfl, rfl, rfl, rfl, trivial⟩, (((hG8.trans hG9).trans hG10).trans hG11), hz, hK⟩
                              · rintro ⟨b18, tz, G8⟩ g w ⟨hG8, hz, hK⟩
                                refine thn <| sq <| sq <| rg <| ?_
                                simp only at hG8 hz hK
                                replace hw := hw.mono hG8
                                refine vl (lsO hK Ty.a33 Ty.s33 0 rfl rfl rfl) <| vl (lsO hK Ty.a33 Ty.s33 3 rfl rfl rfl) <| ?_
                                refine cl Try.call27 rfl (eqScan_c hK hz hw) ?_
                                rintro _ w ⟨rfl, hK⟩
                                refine vl (nt rfl) <| vl (mvv (v := .bool _) rfl) <| ?_
                                refine splP (t := 127) rfl (fun f1 => ?_) (fun f1 => ?_)
                                · exact absurd ⟨rfl, rfl⟩ f1
                                · have _ := trivial
                                  refine gy rfl <| vl (mvv (v := .bool _) rfl) <| gy rfl <| vl (mvv (v := .bool _) rfl) <| gy rfl <| vl (neB Try.underlying4 rfl rfl) <| vl (pk rfl) <| nl <| thn <| ?_
                                  refine cdB rfl (fun f2 => ?_) (fun f2 => ?_)
                                  · simp at f2
                                  · have _ := trivial
                                    refine sk <| thn <| sq <| rg <| ?_
                                    refine vl (asv (v := .int _ _) rfl) <| nl <| thn <| sq <| rg <| vl (lsO hK Ty.a33 Ty.s33 1 rfl rfl rfl) <| vl (mvv (v := .int _ _) rfl) <| ?_
                                    replace hK : K e w G8 (Ag' ++ ((b18, row [.int .i64 (scanF ls ks (n, ts)).1.1, tz] 33) :: (b13, row [.int .i64 (scanF ls ks (n, ts)).1.1, tg] 33) :: (b12, row [.int .i64 n, x2] 33) :: (b8, row [.int .i64 (scanF ls ks (n, ts)).1.1, tw] 33) :: (b5, row [.int .i64 n, t] 37) :: (A2' ++ (A1' ++ (A0' ++ L))))) := hK.cnt fun f => by simp only [List.map_append, List.map_cons, List.map_nil, List.sum_append, List.sum_cons, List.sum_nil]; omega
                                    refine cl Try.call53 rfl (heldScan_o (m := (scanF ls ks (n, ts)).1.2.length) hK hog' hzl (by first | omega | (simp only; omega)) (by first | omega | (simp only; omega))) ?_
                                    rintro _ w ⟨rfl, hK⟩
                                    refine vl (asv (v := .int _ _) rfl) <| nl <| thn <| sq <| sq <| rg <| vl (mvv (v := .int _ _) rfl) <| vl (lt rfl rfl) <| nl <| thn <| ?_
                                    refine cdP rfl (fun f3 => ?_) (fun f3 => ?_)
                                    · exfalso; omega
                                    · have _ := trivial
                                      refine sk <| thn <| sq <| sq <| rg <| ?_
                                      refine vl (mvv (v := .int _ _) rfl) <| vl (mvv (v := .int _ _) rfl) <| vl (ne rfl rfl) <| nl <| thn <| ?_
                                      refine cdP rfl (fun f4 => ?_) (fun f4 => ?_)
                                      · exfalso; omega
                                      · have _ := trivial
                                        refine sk <| thn <| sq <| rg <| ?_
                                        refine vl (asv (v := .bool _) rfl) <| nl <| thn <| rt <| p1r (a := .bool _) rfl <| ?_
                                        exact ⟨rfl, _, _, hK, hG.trans hG8⟩
end
end Go.Proofs.Ytemeepjdjaabmaa
