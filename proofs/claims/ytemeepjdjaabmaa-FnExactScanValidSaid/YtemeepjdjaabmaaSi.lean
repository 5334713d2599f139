/- The laws on exact scans: what each returns. Conditions: those that each row states. -/
import Derived.Test.YtemeepjdjaabmaaSe
namespace Go.Proofs.Ytemeepjdjaabmaa
open Go Go.Ro

section
variable {e w : World} {G : View} {L A : Own} {v u t t2 : Value} {xs ys ks ts us : List Int} {ls ms : List Ls} {n m k : Int}

theorem FnExactScanValid_c (hK : K e w G L) (ht : IntS G t ts) : Ret Try.prog 5 #[.agg #[.int .i64 n, t]] w (fun r w' => r = .bool true ∧ ∃ G' L', K e w' G' L' ∧ VLe G G') := by
  refine enter1 (args := [.agg #[.int .i64 n, t]]) Try.func5 rfl rfl rfl rfl ?_
  refine sq <| rg <| ?_
  refine bx hK rfl rfl ?_
  intro b1 w hK
  refine vl (asv (v := .bool _) rfl) <| nl <| thn <| sq <| rg <| vl (asv (v := .int _ _) rfl) <| nl <| thn <| sq <| rg <| vl (lsO hK Ty.a37 Ty.s37 0 rfl rfl rfl) <| vl (mvv (v := .int _ _) rfl) <| ?_
  refine cl Try.call25 rfl (szScan_c hK ht (by first | omega | (simp only; omega)) (by first | omega | (simp only; omega))) ?_
  rintro _ w ⟨⟨k, rfl, k1, k2, k3⟩, hK⟩
  refine vl (asv (v := .int _ _) rfl) <| nl <| thn <| sq <| sq <| rg <| vl (mvv (v := .int _ _) rfl) <| vl (lt rfl rfl) <| nl <| thn <| ?_
  refine cdP rfl (fun hneg => ?_) (fun hneg => ?_)
  · refine sq <| rg <| ?_
    refine vl (asv (v := .bool _) rfl) <| nl <| thn <| rt <| thr <| p1r (a := .bool _) rfl <| ?_
    exact ⟨rfl, _, _, hK, VLe.refl _⟩
  · have hl : ts.length ≤ 1048576 := by have := k3 (by omega); omega
    refine sk <| thn <| sq <| rg <| ?_
    refine vl (lsO hK Ty.a37 Ty.s37 0 rfl rfl rfl) <| ?_
    refine cl Try.call26 rfl (toScan_v hK ht hl) ?_
    rintro _ w ⟨G1, t1, rfl, hG1, ht1, hK⟩
    refine cl Try.call24 rfl (specScanValid_c hK (by assumption)) ?_
    rintro _ w ⟨rfl, hK⟩
    refine vl (asv (v := .bool _) rfl) <| nl <| thn <| sq <| rg <| vl (lsO hK Ty.a37 Ty.s37 0 rfl rfl rfl) <| ?_
    refine cl Try.call26 rfl (toScan_v hK (ht.mono hG1) hl) ?_
    rintro _ w ⟨G2, t2, rfl, hG2, ht2, hK⟩
    refine al hK Ty.i33 rfl ?_
    intro b5 w hK
    refine soS hK Ty.i33 0 rfl rfl rfl rfl (allc rfl (allc ht2.1.one rfl)) rfl ?_
    intro w hK
    refine nl <| thn <| sq <| rg <| vl (lsO hK Ty.a33 Ty.s33 0 rfl rfl rfl) <| ?_
    refine cl Try.call23 rfl (implScanValid_c hK (by assumption)) ?_
    rintro _ w ⟨rfl, hK⟩
    refine vl (asv (v := .bool _) rfl) <| nl <| thn <| sq <| sq <| rg <| vl (mvv (v := .bool _) rfl) <| vl (mvv (v := .bool _) rfl) <| vl (neB Try.underlying4 rfl rfl) <| nl <| thn <| ?_
    refine cdB rfl (fun h1 => ?_) (fun h1 => ?_)
    · simp at h1
    · have _ := trivial
      refine sk <| thn <| sq <| sq <| ?_
      refine rgs (fun w => K e w G2 ((b5, row [.int .i64 n, t2] 33) :: (b1, row [.int .i64 n, t] 37) :: L)) (fun w => K _ w _ _) [false, false, false, false, false] 5 Ty.mixed rfl rfl (hK.drawn _) ?_
      intro w hK
      have hS : (fun w => K e w G2 ((b5, row [.int .i64 n, t2] 33) :: (b1, row [.int .i64 n, t] 37) :: L)) w := K.sl hK (by repeat' (first | exact List.Sublist.refl _ | refine List.Sublist.cons_cons _ ?_ | refine List.Sublist.cons _ ?_ | refine List.Sublist.trans ?_ (List.sublist_append_right _ _)))
      refine xt (i := 0) (l' := [true, false, false, false, false]) rfl (by kernel_rfl) rfl rfl (fun w hK => (lsO hK Ty.a33 Ty.s33 0 rfl rfl rfl)) hS <| ?_; refine xt (i := 1) (l' := [true, true, false, false, false]) rfl (by kernel_rfl) rfl rfl (fun w hK => (lsO hK Ty.a37 Ty.s37 1 rfl rfl rfl)) hS <| ?_
      refine xe (i := 2) (l' := [true, true, true, false, false]) (by kernel_rfl) rfl rfl ?_
      refine cl Try.call26 rfl (toScan_v hK (ht.mono (hG1.trans hG2)) hl) ?_
      rintro _ w ⟨G3, t3, rfl, hG3, ht3, hK⟩
      replace ht2 := ht2.mono hG3
      replace hS : (fun w => K e w G2 ((b5, row [.int .i64 n, t2] 33) :: (b1, row [.int .i64 n, t] 37) :: L)) w := (K.vle hK hG3)
      refine xn (fun w => K e w G2 ((b5, row [.int .i64 n, t2] 33) :: (b1, row [.int .i64 n, t] 37) :: L)) hS (fun _ h => h) ?_
      refine xe (i := 3) (l' := [true, true, true, true, false]) (by kernel_rfl) rfl rfl ?_
      refine cl Try.call27 rfl (eqScan_c hK (by assumption) (by assumption)) ?_
      rintro _ w ⟨rfl, hK⟩
      replace hS : (fun w => K e w G2 ((b5, row [.int .i64 n, t2] 33) :: (b1, row [.int .i64 n, t] 37) :: L)) w := (K.vle hK hG3)
      refine xn (fun w => K e w G2 ((b5, row [.int .i64 n, t2] 33) :: (b1, row [.int .i64 n, t] 37) :: L)) hS (fun _ h => h) ?_
      refine xt (i := 4) (l' := [true, true, true, true, true]) rfl (by kernel_rfl) rfl rfl (fun w hK => (nt rfl)) hS <| ?_; refine xd (by kernel_rfl) <| thn <| ?_
      refine cdP rfl (fun h2 => ?_) (fun h2 => ?_)
      · exact absurd ⟨rfl, rfl⟩ h2
      · have _ := trivial
        refine sk <| thn <| sq <| rg <| ?_
        refine vl (asv (v := .bool _) rfl) <| nl <| thn <| rt <| p1r (a := .bool _) rfl <| ?_
        exact ⟨rfl, _, _, hK, (hG1.trans hG2).trans hG3⟩
theorem FnExactScanDone_c (hK : K e w G L) (ht : IntS G t ts) : Ret Try.prog 6 #[.agg #[.int .i64 n, t]] w (fun r w' => r = .bool true ∧ ∃ G' L', K e w' G' L' ∧ VLe G G') := by
  refine enter1 (args := [.agg #[.int .i64 n, t]]) Try.func6 rfl rfl rfl rfl ?_
  refine sq <| rg <| ?_
  refine bx hK rfl rfl ?_
  intro b1 w hK
  refine vl (asv (v := .bool _) rfl) <| nl <| thn <| sq <| rg <| vl (asv (v := .int _ _) rfl) <| nl <| thn <| sq <| rg <| vl (lsO hK Ty.a37 Ty.s37 0 rfl rfl rfl) <| vl (mvv (v := .int _ _) rfl) <| ?_
  refine cl Try.call25 rfl (szScan_c hK ht (by first | omega | (simp only; omega)) (by first | omega | (simp only; omega))) ?_
  rintro _ w ⟨⟨k, rfl, k1, k2, k3⟩, hK⟩
  refine vl (asv (v := .int _ _) rfl) <| nl <| thn <| sq <| sq <| rg <| vl (mvv (v := .int _ _) rfl) <| vl (lt rfl rfl) <| nl <| thn <| ?_
  refine cdP rfl (fun hneg => ?_) (fun hneg => ?_)
  · refine sq <| rg <| ?_
    refine vl (asv (v := .bool _) rfl) <| nl <| thn <| rt <| thr <| p1r (a := .bool _) rfl <| ?_
    exact ⟨rfl, _, _, hK, VLe.refl _⟩
  · have hl : ts.length ≤ 1048576 := by have := k3 (by omega); omega
    refine sk <| thn <| sq <| rg <| ?_
    refine vl (lsO hK Ty.a37 Ty.s37 0 rfl rfl rfl) <| ?_
    refine cl Try.call26 rfl (toScan_v hK ht hl) ?_
    rintro _ w ⟨G1, t1, rfl, hG1, ht1, hK⟩
    refine cl Try.call28 rfl (specScanDone_c hK (by assumption)) ?_
    rintro _ w ⟨rfl, hK⟩
    refine vl (asv (v := .bool _) rfl) <| nl <| thn <| sq <| rg <| vl (lsO hK Ty.a37 Ty.s37 0 rfl rfl rfl) <| ?_
    refine cl Try.call26 rfl (toScan_v hK (ht.mono hG1) hl) ?_
    rintro _ w ⟨G2, t2, rfl, hG2, ht2, hK⟩
    refine al hK Ty.i33 rfl ?_
    intro b5 w hK
    refine soS hK Ty.i33 0 rfl rfl rfl rfl (allc rfl (allc ht2.1.one rfl)) rfl ?_
    intro w hK
    refine nl <| thn <| sq <| rg <| vl (lsO hK Ty.a33 Ty.s33 0 rfl rfl rfl) <| ?_
    refine cl Try.call29 rfl (implScanDone_c hK (by assumption)) ?_
    rintro _ w ⟨rfl, hK⟩
    refine vl (asv (v := .bool _) rfl) <| nl <| thn <| sq <| sq <| rg <| vl (mvv (v := .bool _) rfl) <| vl (mvv (v := .bool _) rfl) <| vl (neB Try.underlying4 rfl rfl) <| nl <| thn <| ?_
    refine cdB rfl (fun h1 => ?_) (fun h1 => ?_)
    · simp at h1
    · have _ := trivial
      refine sk <| thn <| sq <| sq <| ?_
      refine rgs (fun w => K e w G2 ((b5, row [.int .i64 n, t2] 33) :: (b1, row [.int .i64 n, t] 37) :: L)) (fun w => K _ w _ _) [false, false, false, false, false] 5 Ty.mixed rfl rfl (hK.drawn _) ?_
      intro w hK
      have hS : (fun w => K e w G2 ((b5, row [.int .i64 n, t2] 33) :: (b1, row [.int .i64 n, t] 37) :: L)) w := K.sl hK (by repeat' (first | exact List.Sublist.refl _ | refine List.Sublist.cons_cons _ ?_ | refine List.Sublist.cons _ ?_ | refine List.Sublist.trans ?_ (List.sublist_append_right _ _)))
      refine xt (i := 0) (l' := [true, false, false, false, false]) rfl (by kernel_rfl) rfl rfl (fun w hK => (lsO hK Ty.a33 Ty.s33 0 rfl rfl rfl)) hS <| ?_; refine xt (i := 1) (l' := [true, true, false, false, false]) rfl (by kernel_rfl) rfl rfl (fun w hK => (lsO hK Ty.a37 Ty.s37 1 rfl rfl rfl)) hS <| ?_
      refine xe (i := 2) (l' := [true, true, true, false, false]) (by kernel_rfl) rfl rfl ?_
      refine cl Try.call26 rfl (toScan_v hK (ht.mono (hG1.trans hG2)) hl) ?_
      rintro _ w ⟨G3, t3, rfl, hG3, ht3, hK⟩
      replace ht2 := ht2.mono hG3
      replace hS : (fun w => K e w G2 ((b5, row [.int .i64 n, t2] 33) :: (b1, row [.int .i64 n, t] 37) :: L)) w := (K.vle hK hG3)
      refine xn (fun w => K e w G2 ((b5, row [.int .i64 n, t2] 33) :: (b1, row [.int .i64 n, t] 37) :: L)) hS (fun _ h => h) ?_
      refine xe (i := 3) (l' := [true, true, true, true, false]) (by kernel_rfl) rfl rfl ?_
      refine cl Try.call27 rfl (eqScan_c hK (by assumption) (by assumption)) ?_
      rintro _ w ⟨rfl, hK⟩
      replace hS : (fun w => K e w G2 ((b5, row [.int .i64 n, t2] 33) :: (b1, row [.int .i64 n, t] 37) :: L)) w := (K.vle hK hG3)
      refine xn (fun w => K e w G2 ((b5, row [.int .i64 n, t2] 33) :: (b1, row [.int .i64 n, t] 37) :: L)) hS (fun _ h => h) ?_
      refine xt (i := 4) (l' := [true, true, true, true, true]) rfl (by kernel_rfl) rfl rfl (fun w hK => (nt rfl)) hS <| ?_; refine xd (by kernel_rfl) <| thn <| ?_
      refine cdP rfl (fun h2 => ?_) (fun h2 => ?_)
      · exact absurd ⟨rfl, rfl⟩ h2
      · have _ := trivial
        refine sk <| thn <| sq <| rg <| ?_
        refine vl (asv (v := .bool _) rfl) <| nl <| thn <| rt <| p1r (a := .bool _) rfl <| ?_
        exact ⟨rfl, _, _, hK, (hG1.trans hG2).trans hG3⟩


end
end Go.Proofs.Ytemeepjdjaabmaa
