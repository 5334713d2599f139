/- The laws on valid worlds and on owners, exactly: what they return. Conditions: those that each row states. -/
import Derived.Test.YtjfjnmbgimfmaaaWe
namespace Go.Proofs.Ytjfjnmbgimfmaaa
open Go Go.Ro

section
variable {e w : World} {G : View} {L A : Own} {W : Wv} {wd : Wd} {rs : List Rn} {k : Int}

theorem FnExactWorldValid_c (hK : K e w G L) (hW : WdS G lc W wd rs) : Ret Try.prog 5 #[.agg (wc W).toArray] w (fun r w' => r = .bool true ∧ ∃ G' L', K e w' G' L' ∧ VLe G G') := by
  refine enter1 (args := [.agg (wc W).toArray]) Try.func5 rfl rfl rfl rfl ?_
  refine sq <| rg <| ?_
  refine bx hK rfl rfl ?_
  intro b1 w hK
  refine vl (asv (v := .bool _) rfl) <| nl <| thn <| sq <| rg <| vl (asv (v := .int _ _) rfl) <| nl <| thn <| sq <| rg <| vl (lsO hK Ty.a48 Ty.s48 0 rfl rfl rfl) <| vl (mvv (v := .int _ _) rfl) <| ?_
  refine cl Try.call21 rfl (szWorld_c hK hW (by first | omega | (simp only; omega)) (by first | omega | (simp only; omega))) ?_
  rintro _ w ⟨⟨k, rfl, hl⟩, hK⟩
  refine vl (asv (v := .int _ _) rfl) <| nl <| thn <| sq <| sq <| rg <| vl (mvv (v := .int _ _) rfl) <| vl (lt rfl rfl) <| nl <| thn <| ?_
  refine cdP rfl (fun hneg => ?_) (fun hneg => ?_)
  · refine sq <| rg <| ?_
    refine vl (asv (v := .bool _) rfl) <| nl <| thn <| rt <| thr <| p1r (a := .bool _) rfl <| ?_
    exact ⟨rfl, _, _, hK, VLe.refl _⟩
  · have hl := hl (by omega)
    have hil : wd.items.length ≤ 1048576 := hl.2.2.2.1
    refine sk <| thn <| sq <| rg <| ?_
    refine vl (lsO hK Ty.a48 Ty.s48 0 rfl rfl rfl) <| ?_
    refine cl Try.call23 rfl (toWorld_v hK hW hl) ?_
    rintro _ w ⟨G1, W1, q1, rfl, hG1, hW1, hK⟩
    refine cl Try.call22 rfl (specWorldValid_c hK hW1 hil) ?_
    rintro _ w ⟨rfl, hK⟩
    refine vl (asv (v := .bool _) rfl) <| nl <| thn <| sq <| rg <| vl (lsO hK Ty.a48 Ty.s48 0 rfl rfl rfl) <| ?_
    refine cl Try.call23 rfl (toWorld_v hK (hW.mono hG1) hl) ?_
    rintro _ w ⟨G2, W2, q2, rfl, hG2, hW2, hK⟩
    refine al hK Ty.i29 rfl ?_
    intro b5 w hK
    refine soS hK Ty.i29 0 rfl rfl rfl rfl (WdS.one hW2) rfl ?_
    intro w hK
    refine nl <| thn <| sq <| rg <| vl (lsO hK Ty.a29 Ty.s29 0 rfl rfl rfl) <| ?_
    refine cl Try.call19 rfl (implWorldValid_c hK hW2 hil) ?_
    rintro _ w ⟨rfl, hK⟩
    refine vl (asv (v := .bool _) rfl) <| nl <| thn <| sq <| sq <| rg <| vl (mvv (v := .bool _) rfl) <| vl (mvv (v := .bool _) rfl) <| vl (neB Try.underlying4 rfl rfl) <| nl <| thn <| ?_
    refine cdB rfl (fun h1 => ?_) (fun h1 => ?_)
    · simp at h1
    · have _ := trivial
      refine sk <| thn <| sq <| sq <| ?_
      refine rgs (fun w => K e w G2 ((b5, row (wc W2) 29) :: (b1, row (wc W) 48) :: L)) (fun w => K _ w _ _) [false, false, false, false, false] 5 Ty.mixed rfl rfl (hK.drawn _) ?_
      intro w hK
      have hS : (fun w => K e w G2 ((b5, row (wc W2) 29) :: (b1, row (wc W) 48) :: L)) w := K.sl hK (by repeat' (first | exact List.Sublist.refl _ | refine List.Sublist.cons_cons _ ?_ | refine List.Sublist.cons _ ?_ | refine List.Sublist.trans ?_ (List.sublist_append_right _ _)))
      refine xt (i := 0) (l' := [true, false, false, false, false]) rfl (by kernel_rfl) rfl rfl (fun w hK => (lsO hK Ty.a29 Ty.s29 0 rfl rfl rfl)) hS <| ?_; refine xt (i := 1) (l' := [true, true, false, false, false]) rfl (by kernel_rfl) rfl rfl (fun w hK => (lsO hK Ty.a48 Ty.s48 1 rfl rfl rfl)) hS <| ?_
      refine xe (i := 2) (l' := [true, true, true, false, false]) (by kernel_rfl) rfl rfl ?_
      refine cl Try.call23 rfl (toWorld_v hK (hW.mono (hG1.trans hG2)) hl) ?_
      rintro _ w ⟨G3, W3, q3, rfl, hG3, hW3, hK⟩
      replace hS : (fun w => K e w G2 ((b5, row (wc W2) 29) :: (b1, row (wc W) 48) :: L)) w := (K.vle hK hG3)
      refine xn (fun w => K e w G2 ((b5, row (wc W2) 29) :: (b1, row (wc W) 48) :: L)) hS (fun _ h => h) ?_
      refine xe (i := 3) (l' := [true, true, true, true, false]) (by kernel_rfl) rfl rfl ?_
      refine cl Try.call10 rfl (eqWorld_c hK (hW2.mono hG3) hW3) ?_
      rintro _ w ⟨rfl, hK⟩
      replace hS : (fun w => K e w G2 ((b5, row (wc W2) 29) :: (b1, row (wc W) 48) :: L)) w := (K.vle hK hG3)
      refine xn (fun w => K e w G2 ((b5, row (wc W2) 29) :: (b1, row (wc W) 48) :: L)) hS (fun _ h => h) ?_
      refine xt (i := 4) (l' := [true, true, true, true, true]) rfl (by kernel_rfl) rfl rfl (fun w hK => (ntB rfl)) hS <| ?_; refine xd (by kernel_rfl) <| thn <| ?_
      refine cdB rfl (fun h2 => ?_) (fun h2 => ?_)
      · exact absurd rfl (not_dec (Eq.mp (Bool.not_eq_true' _) h2))
      · have _ := trivial
        refine sk <| thn <| sq <| rg <| ?_
        refine vl (asv (v := .bool _) rfl) <| nl <| thn <| rt <| p1r (a := .bool _) rfl <| ?_
        exact ⟨rfl, _, _, hK, (hG1.trans hG2).trans hG3⟩
theorem FnExactWorldOwner_c (hK : K e w G L) (hW : WdS G lc W wd rs) (_ : (Lit.int .i64 k).wf = true) : Ret Try.prog 6 #[.agg (wc W).toArray, .int .i64 k] w (fun r w' => r = .bool true ∧ ∃ G' L', K e w' G' L' ∧ VLe G G') := by
  refine enter1 (args := [.agg (wc W).toArray, .int .i64 k]) Try.func6 rfl rfl rfl rfl ?_
  refine sq <| rg <| ?_
  refine bx hK rfl rfl ?_
  intro b2 w hK
  refine vl (asv (v := .bool _) rfl) <| nl <| thn <| sq <| rg <| vl (asv (v := .int _ _) rfl) <| nl <| thn <| sq <| rg <| vl (lsO hK Ty.a48 Ty.s48 0 rfl rfl rfl) <| vl (mvv (v := .int _ _) rfl) <| ?_
  refine cl Try.call21 rfl (szWorld_c hK hW (by first | omega | (simp only; omega)) (by first | omega | (simp only; omega))) ?_
  rintro _ w ⟨⟨m, rfl, hl⟩, hK⟩
  refine vl (asv (v := .int _ _) rfl) <| nl <| thn <| sq <| sq <| rg <| vl (mvv (v := .int _ _) rfl) <| vl (lt rfl rfl) <| nl <| thn <| ?_
  refine cdP rfl (fun hneg => ?_) (fun hneg => ?_)
  · refine sq <| rg <| ?_
    refine vl (asv (v := .bool _) rfl) <| nl <| thn <| rt <| thr <| p1r (a := .bool _) rfl <| ?_
    exact ⟨rfl, _, _, hK, VLe.refl _⟩
  · have hl := hl (by omega)
    have hil : wd.items.length ≤ 1048576 := hl.2.2.2.1
    refine sk <| thn <| sq <| rg <| ?_
    refine vl (lsO hK Ty.a48 Ty.s48 0 rfl rfl rfl) <| ?_
    refine cl Try.call23 rfl (toWorld_v hK hW hl) ?_
    rintro _ w ⟨G1, W1, q1, rfl, hG1, hW1, hK⟩
    refine vl (mvv (v := .int _ _) rfl) <| ?_
    refine cl Try.call24 rfl (specWorldOwner_c hK hW1 hil) ?_
    rintro _ w ⟨⟨n1, rfl, s1, s2, s3⟩, hK⟩
    refine vl (asv (v := .int _ _) rfl) <| nl <| thn <| sq <| rg <| vl (lsO hK Ty.a48 Ty.s48 0 rfl rfl rfl) <| ?_
    refine cl Try.call23 rfl (toWorld_v hK (hW.mono hG1) hl) ?_
    rintro _ w ⟨G2, W2, q2, rfl, hG2, hW2, hK⟩
    refine al hK Ty.i29 rfl ?_
    intro b7 w hK
    refine soS hK Ty.i29 0 rfl rfl rfl rfl (WdS.one hW2) rfl ?_
    intro w hK
    refine nl <| thn <| sq <| rg <| vl (lsO hK Ty.a29 Ty.s29 0 rfl rfl rfl) <| vl (mvv (v := .int _ _) rfl) <| ?_
    refine cl Try.call17 rfl (WorldOwner_c hK hW2 hil) ?_
    rintro _ w ⟨⟨n2, rfl, i1, i2, i3⟩, G3, hG3, hK⟩
    refine vl (asv (v := .int _ _) rfl) <| nl <| thn <| sq <| sq <| rg <| vl (mvv (v := .int _ _) rfl) <| vl (mvv (v := .int _ _) rfl) <| vl (ne rfl rfl) <| nl <| thn <| ?_
    have hnn : n1 = n2 := by
      by_cases h1 : WdOk wd
      · by_cases h2 : Pt k
        · rw [s2 h1 h2, i2 h1 h2]
        · rw [s3 h2, i3 h2]
      · rw [s1 h1, i1 h1]
    subst hnn
    refine cdP rfl (fun h1 => ?_) (fun h1 => ?_)
    · exact absurd rfl h1
    · have _ := trivial
      refine sk <| thn <| sq <| sq <| ?_
      have hGa := (hG1.trans hG2).trans hG3
      refine rgs (fun w => K e w G3 ((b7, row (wc W2) 29) :: (b2, row (wc W) 48) :: L)) (fun w => K _ w _ _) [false, false, false, false, false] 5 Ty.mixed rfl rfl (hK.drawn _) ?_
      intro w hK
      have hS : (fun w => K e w G3 ((b7, row (wc W2) 29) :: (b2, row (wc W) 48) :: L)) w := K.sl hK (by repeat' (first | exact List.Sublist.refl _ | refine List.Sublist.cons_cons _ ?_ | refine List.Sublist.cons _ ?_ | refine List.Sublist.trans ?_ (List.sublist_append_right _ _)))
      refine xt (i := 0) (l' := [true, false, false, false, false]) rfl (by kernel_rfl) rfl rfl (fun w hK => (lsO hK Ty.a29 Ty.s29 0 rfl rfl rfl)) hS <| ?_; refine xt (i := 1) (l' := [true, true, false, false, false]) rfl (by kernel_rfl) rfl rfl (fun w hK => (lsO hK Ty.a48 Ty.s48 1 rfl rfl rfl)) hS <| ?_
      refine xe (i := 2) (l' := [true, true, true, false, false]) (by kernel_rfl) rfl rfl ?_
      refine cl Try.call23 rfl (toWorld_v hK (hW.mono hGa) hl) ?_
      rintro _ w ⟨G4, W3, q3, rfl, hG4, hW3, hK⟩
      replace hS : (fun w => K e w G3 ((b7, row (wc W2) 29) :: (b2, row (wc W) 48) :: L)) w := (K.vle hK hG4)
      refine xn (fun w => K e w G3 ((b7, row (wc W2) 29) :: (b2, row (wc W) 48) :: L)) hS (fun _ h => h) ?_
      refine xe (i := 3) (l' := [true, true, true, true, false]) (by kernel_rfl) rfl rfl ?_
      refine cl Try.call10 rfl (eqWorld_c hK (hW2.mono (hG3.trans hG4)) hW3) ?_
      rintro _ w ⟨rfl, hK⟩
      replace hS : (fun w => K e w G3 ((b7, row (wc W2) 29) :: (b2, row (wc W) 48) :: L)) w := (K.vle hK hG4)
      refine xn (fun w => K e w G3 ((b7, row (wc W2) 29) :: (b2, row (wc W) 48) :: L)) hS (fun _ h => h) ?_
      refine xt (i := 4) (l' := [true, true, true, true, true]) rfl (by kernel_rfl) rfl rfl (fun w hK => (ntB rfl)) hS <| ?_; refine xd (by kernel_rfl) <| thn <| ?_
      refine cdB rfl (fun h2 => ?_) (fun h2 => ?_)
      · exact absurd rfl (not_dec (Eq.mp (Bool.not_eq_true' _) h2))
      · have _ := trivial
        refine sk <| thn <| sq <| rg <| ?_
        refine vl (asv (v := .bool _) rfl) <| nl <| thn <| rt <| p1r (a := .bool _) rfl <| ?_
        exact ⟨rfl, _, _, hK, hGa.trans hG4⟩
end
end Go.Proofs.Ytjfjnmbgimfmaaa
