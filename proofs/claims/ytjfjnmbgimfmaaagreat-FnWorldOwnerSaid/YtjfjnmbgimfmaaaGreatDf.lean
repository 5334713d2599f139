/- Contracts of the functions that draw worlds. Conditions: those that each row states. -/
import Derived.Test.YtjfjnmbgimfmaaaGreatDe
import Derived.Test.YtjfjnmbgimfmaaaGreatStM
namespace Go.Proofs.YtjfjnmbgimfmaaaGreat
open Go Go.Ro

section
variable {e w : World} {G : View} {L A : Own} {v u cva : Value} {code xs ys : List Int} {rs qs : List Rn} {W W' : Wv} {wd wd' : Wd} {a b c k kd p : Int} {rb : Nat}

set_option maxHeartbeats 4000000 in
theorem l92World_c (hK : K e w G ((rb, row [cva, .int .i64 p] 54) :: L)) (hcode : BytS G cva code) (hlen : code.length ≤ 2000) (h0 : 0 ≤ p) (h1 : p ≤ 700000000) :
    Ret Tryz.prog 10 #[.pointer (some ⟨rb, 0, none⟩)] w (fun r w' => ∃ G' W wd rs p', VLe G G' ∧ r = .agg (wc W).toArray ∧ WdS G' lc W wd rs ∧ WdOk wd ∧ p ≤ p' ∧ p' ≤ p + 4000 ∧ K e w' G' ((rb, row [cva, .int .i64 p'] 54) :: L)) := by
  refine enterG1 (args := [.pointer (some ⟨rb, 0, none⟩)]) Tryz.func10 rfl rfl rfl rfl ?_
  refine sq <| rg <| ?_
  refine al hK Ty.i30 rfl ?_
  intro b2 w hK
  refine nl <| thn <| sq <| rg <| vl mv <| ?_
  refine cl Tryz.call23 rfl (l91Good_c hK.swp hcode hlen h0 (by first | omega | (simp only; omega)) (by first | omega | (simp only; omega)) (by first | omega | (simp only; omega))) ?_
  rintro v w ⟨G1, xs, A, p1, hG1, ho, has, hl1, hl2, hp1, hp2, hK⟩
  obtain ⟨G2, hG2, hx, hK⟩ := K.pubO (K.mid (A := [_]) (B := A) hK) ho
  replace hK := hK.swp
  refine cl Tryz.call22 rfl (specWorldNew_c hK hx) ?_
  rintro _ w ⟨G3, W, wd, rs, b, rfl, hG3, hW, hb, hwd, hK⟩
  have hbt : b = true := hb.2 ⟨⟨⟨by omega, by omega⟩, has⟩, by omega⟩
  subst hbt
  rw [if_pos rfl] at hwd
  have hok : WdOk wd := by rw [hwd]; exact newW_ok ⟨⟨by omega, by omega⟩, has⟩ (by omega)
  have hG := (hG1.trans hG2).trans hG3
  replace hcode := hcode.mono hG
  clear hwd
  refine vl mv <| vl (ext rfl rfl) <| vl (ext rfl rfl) <| ?_
  refine al hK Ty.i30 rfl ?_
  intro b3 w hK
  refine soS hK Ty.i30 0 rfl rfl rfl rfl (WdS.one hW) rfl ?_
  intro w hK
  refine vl (asv (v := .bool _) rfl) <| nl <| thn <| sq <| sq <| rg <| vl mv <| ?_
  refine cl Tryz.call11 rfl (pickJ_c 2 hK rfl hcode hlen (by first | omega | (simp only; omega)) (by first | omega | (simp only; omega)) (by first | omega | (simp only; omega))) ?_
  rintro _ w ⟨⟨k13, rfl, hk13, hkn13⟩, hK⟩
  refine vl (eq rfl rfl) <| nl <| thn <| ?_
  refine ct (σ := Int × Int) (fun s => [(0, .pointer (some ⟨rb, 0, none⟩)), (2, .pointer (some ⟨b2, 0, none⟩)), (3, .pointer (some ⟨b3, 0, none⟩))]) (fun s w => (p ≤ s.2 ∧ s.2 ≤ p + 30) ∧ ∃ W wd rs, WdS G3 lc W wd rs ∧ WdOk wd ∧ K e w G3 ((b3, row (wc W) 30) :: (b2, row [.int .i64 0, .slice none 0 0, .slice none 0 0, .slice none 0 0, .int .i64 0, .slice none 0 0, .slice none 0 0] 30) :: (rb, row [cva, .int .i64 s.2] 54) :: L)) ?_ ?_
  · refine cdP rfl (fun c0 => ?_) (fun c0 => ?_)
    · refine rg <| ?_
      refine vl mv <| ?_
      refine cl Tryz.call11 rfl (pickJ_c 2 hK rfl hcode hlen (by first | omega | (simp only; omega)) (by first | omega | (simp only; omega)) (by first | omega | (simp only; omega))) ?_
      rintro _ w ⟨⟨k16, rfl, hk16, hkn16⟩, hK⟩
      refine vl (fa Tryz.underlying30 rfl Ty.z3 rfl) <| ?_
      refine so hK Ty.i3 rfl 0 rfl rfl rfl rfl rfl ?_
      intro w hK
      refine nl <| ctn <| ?_
      exact ⟨(0, _), ⟨rfl, rfl, rfl, trivial⟩, ⟨by simp only; omega, by simp only; omega⟩, { W with now := k16 }, { wd with now := k16 }, rs, ⟨rfl, hW.2, hW.3, hW.4, hW.5, hW.6, hW.7, hW.8⟩, ⟨⟨hk16, by show k16 ≤ 999; omega⟩, hok.2.1, hok.2.2.1, hok.2.2.2.1, hok.2.2.2.2.1, hok.2.2.2.2.2.1, hok.2.2.2.2.2.2⟩, hK⟩
    · refine sk <| ctn <| ?_
      exact ⟨(0, _), ⟨rfl, rfl, rfl, trivial⟩, ⟨by simp only; omega, by simp only; omega⟩, W, wd, rs, hW, hok, hK⟩
  · clear hW hok hK
    rintro ⟨j, q⟩ g w ⟨⟨q1, q2⟩, W, wd, rs, hW, hok, hK⟩
    simp only at q1 q2 hK
    refine thn <| sq <| sq <| rg <| ?_
    refine vl (asv (v := .int _ _) rfl) <| nl <| thn <| bk <| ?_
    refine lp (σ := Nat × View × Wv × Wd × List Rn × Int) (fun s => [(0, .pointer (some ⟨rb, 0, none⟩)), (2, .pointer (some ⟨b2, 0, none⟩)), (3, .pointer (some ⟨b3, 0, none⟩)), (5, .int .i64 (s.1 : Int))]) (fun s w => s.1 ≤ 70 ∧ VLe G3 s.2.1 ∧ WdS s.2.1 lc s.2.2.1 s.2.2.2.1 s.2.2.2.2.1 ∧ WdOk s.2.2.2.1 ∧ (p ≤ s.2.2.2.2.2 ∧ s.2.2.2.2.2 ≤ p + 30 + 41 * s.1) ∧ K e w s.2.1 ((b3, row (wc s.2.2.1) 30) :: (b2, row [.int .i64 0, .slice none 0 0, .slice none 0 0, .slice none 0 0, .int .i64 0, .slice none 0 0, .slice none 0 0] 30) :: (rb, row [cva, .int .i64 s.2.2.2.2.2] 54) :: L)) (fun s => 70 - s.1) (0, G3, W, wd, rs, q) ⟨rfl, rfl, rfl, rfl, trivial⟩ ⟨Nat.zero_le _, VLe.refl _, hW, hok, ⟨q1, by simp only; omega⟩, hK⟩ ?_
    clear hW hok hK
    rintro ⟨i, G4, W, wd, rs, q⟩ g w ⟨hi, hG4, hW, hok, ⟨q1, q2⟩, hK⟩
    simp only at hi hG4 hW hok q1 q2 hK
    replace hcode := hcode.mono hG4
    refine sq <| sq <| rg <| ?_
    refine vl (mvv (v := .int _ _) rfl) <| vl mv <| ?_
    refine cl Tryz.call11 rfl (pickJ_c 2 hK rfl hcode hlen (by first | omega | (simp only; omega)) (by first | omega | (simp only; omega)) (by first | omega | (simp only; omega))) ?_
    rintro _ w ⟨⟨k20, rfl, hk20, hkn20⟩, hK⟩
    refine vl (lt rfl rfl) <| nl <| thn <| ?_
    refine cdP rfl (fun hc => ?_) (fun hc => ?_)
    · refine sk <| thn <| sq <| bk <| ?_
      refine rgs (fun w => K e w G4 L) (fun w => K _ w _ _) [false, false, false, false, false, false] 6 Ty.mixed rfl rfl (hK.drawn _) ?_
      intro w hK
      have hS : (fun w => K e w G4 L) w := K.sl hK (by repeat' (first | exact List.Sublist.refl _ | refine List.Sublist.cons_cons _ ?_ | refine List.Sublist.cons _ ?_ | refine List.Sublist.trans ?_ (List.sublist_append_right _ _)))
      refine xt (i := 1) (l' := [false, true, false, false, false, false]) rfl (by kernel_rfl) rfl rfl (fun w hK => mv) hS <| ?_
      refine xe2 (i := 0) (j := 2) (l' := [true, true, false, false, false, false]) (l2 := [false, true, true, false, false, false]) (by kernel_rfl) rfl rfl rfl rfl ?_ ?_
      · refine vl (lsO hK Ty.a30 Ty.s30 0 rfl rfl rfl) <| ?_
        replace hS : (fun w => K e w G4 L) w := K.sl hK (by repeat' (first | exact List.Sublist.refl _ | refine List.Sublist.cons_cons _ ?_ | refine List.Sublist.cons _ ?_ | refine List.Sublist.trans ?_ (List.sublist_append_right _ _)))
        refine xn (fun w => K e w G4 L) hS (fun _ h => h) ?_
        refine xe (i := 2) (l' := [true, true, true, false, false, false]) (by kernel_rfl) rfl rfl ?_
        refine vl (lsO hK Ty.a30 Ty.s30 0 rfl rfl rfl) <| ?_
        replace hS : (fun w => K e w G4 L) w := K.sl hK (by repeat' (first | exact List.Sublist.refl _ | refine List.Sublist.cons_cons _ ?_ | refine List.Sublist.cons _ ?_ | refine List.Sublist.trans ?_ (List.sublist_append_right _ _)))
        refine xn (fun w => K e w G4 L) hS (fun _ h => h) ?_
        refine xe (i := 3) (l' := [true, true, true, true, false, false]) (by kernel_rfl) rfl rfl ?_
        refine cl Tryz.call25 rfl (l92EventJ_c (rb := rb) 2 hK rfl hcode hlen (by first | omega | (simp only; omega)) (by simp only at *; omega) hW hok) ?_
        rintro _ w ⟨kd, a, b, c, p2, rfl, r1, r2, hK⟩
        replace hS : (fun w => K e w G4 L) w := K.sl hK (by repeat' (first | exact List.Sublist.refl _ | refine List.Sublist.cons_cons _ ?_ | refine List.Sublist.cons _ ?_ | refine List.Sublist.trans ?_ (List.sublist_append_right _ _)))
        refine xn (fun w => K e w G4 L) hS (fun _ h => h) ?_
        refine xe (i := 4) (l' := [true, true, true, true, true, false]) (by kernel_rfl) rfl rfl ?_
        refine cl Tryz.call24 rfl (l51Do_c hK hW hok.wda) ?_
        rintro _ w ⟨G5, W2, rs2, hG5, rfl, hW2, hK⟩
        replace hS : (fun w => K e w G4 L) w := (K.vle (K.sl hK (by repeat' (first | exact List.Sublist.refl _ | refine List.Sublist.cons_cons _ ?_ | refine List.Sublist.cons _ ?_ | refine List.Sublist.trans ?_ (List.sublist_append_right _ _)))) hG5)
        refine xn (fun w => K e w G4 L) hS (fun _ h => h) ?_
        refine xe (i := 5) (l' := [true, true, true, true, true, true]) (by kernel_rfl) rfl rfl ?_
        refine soS hK Ty.i30 0 rfl rfl rfl rfl (WdS.one hW2) rfl ?_
        intro w hK
        replace hS : (fun w => K e w G4 L) w := (K.vle (K.sl hK (by repeat' (first | exact List.Sublist.refl _ | refine List.Sublist.cons_cons _ ?_ | refine List.Sublist.cons _ ?_ | refine List.Sublist.trans ?_ (List.sublist_append_right _ _)))) hG5)
        refine xn (fun w => K e w G4 L) hS (fun _ h => h) ?_
        refine xd (by kernel_rfl) <| bkn <| thn <| rg <| vl (mvv (v := .int _ _) rfl) <| vl (ad rfl rfl (by first | omega | (simp only; omega)) (by first | omega | (simp only; omega))) <| vl (asv (v := .int _ _) rfl) <| nl <| thn <| ?_
        exact ⟨(i + 1, G5, W2, _, rs2, p2), ⟨rfl, rfl, rfl, rfl, trivial⟩, ⟨by simp only at *; omega, hG4.trans hG5, hW2, doW_ok hok kd a b c, ⟨by simp only at *; omega, by simp only at *; omega⟩, hK⟩, by simp only at *; omega⟩
      · refine vl (lsO hK Ty.a30 Ty.s30 0 rfl rfl rfl) <| ?_
        replace hS : (fun w => K e w G4 L) w := K.sl hK (by repeat' (first | exact List.Sublist.refl _ | refine List.Sublist.cons_cons _ ?_ | refine List.Sublist.cons _ ?_ | refine List.Sublist.trans ?_ (List.sublist_append_right _ _)))
        refine xn (fun w => K e w G4 L) hS (fun _ h => h) ?_
        refine xe2 (i := 0) (j := 3) (l' := [true, true, true, false, false, false]) (l2 := [false, true, true, true, false, false]) (by kernel_rfl) rfl rfl rfl rfl ?_ ?_
        · refine vl (lsO hK Ty.a30 Ty.s30 0 rfl rfl rfl) <| ?_
          replace hS : (fun w => K e w G4 L) w := K.sl hK (by repeat' (first | exact List.Sublist.refl _ | refine List.Sublist.cons_cons _ ?_ | refine List.Sublist.cons _ ?_ | refine List.Sublist.trans ?_ (List.sublist_append_right _ _)))
          refine xn (fun w => K e w G4 L) hS (fun _ h => h) ?_
          refine xe (i := 3) (l' := [true, true, true, true, false, false]) (by kernel_rfl) rfl rfl ?_
          refine cl Tryz.call25 rfl (l92EventJ_c (rb := rb) 2 hK rfl hcode hlen (by first | omega | (simp only; omega)) (by simp only at *; omega) hW hok) ?_
          rintro _ w ⟨kd, a, b, c, p2, rfl, r1, r2, hK⟩
          replace hS : (fun w => K e w G4 L) w := K.sl hK (by repeat' (first | exact List.Sublist.refl _ | refine List.Sublist.cons_cons _ ?_ | refine List.Sublist.cons _ ?_ | refine List.Sublist.trans ?_ (List.sublist_append_right _ _)))
          refine xn (fun w => K e w G4 L) hS (fun _ h => h) ?_
          refine xe (i := 4) (l' := [true, true, true, true, true, false]) (by kernel_rfl) rfl rfl ?_
          refine cl Tryz.call24 rfl (l51Do_c hK hW hok.wda) ?_
          rintro _ w ⟨G5, W2, rs2, hG5, rfl, hW2, hK⟩
          replace hS : (fun w => K e w G4 L) w := (K.vle (K.sl hK (by repeat' (first | exact List.Sublist.refl _ | refine List.Sublist.cons_cons _ ?_ | refine List.Sublist.cons _ ?_ | refine List.Sublist.trans ?_ (List.sublist_append_right _ _)))) hG5)
          refine xn (fun w => K e w G4 L) hS (fun _ h => h) ?_
          refine xe (i := 5) (l' := [true, true, true, true, true, true]) (by kernel_rfl) rfl rfl ?_
          refine soS hK Ty.i30 0 rfl rfl rfl rfl (WdS.one hW2) rfl ?_
          intro w hK
          replace hS : (fun w => K e w G4 L) w := (K.vle (K.sl hK (by repeat' (first | exact List.Sublist.refl _ | refine List.Sublist.cons_cons _ ?_ | refine List.Sublist.cons _ ?_ | refine List.Sublist.trans ?_ (List.sublist_append_right _ _)))) hG5)
          refine xn (fun w => K e w G4 L) hS (fun _ h => h) ?_
          refine xd (by kernel_rfl) <| bkn <| thn <| rg <| vl (mvv (v := .int _ _) rfl) <| vl (ad rfl rfl (by first | omega | (simp only; omega)) (by first | omega | (simp only; omega))) <| vl (asv (v := .int _ _) rfl) <| nl <| thn <| ?_
          exact ⟨(i + 1, G5, W2, _, rs2, p2), ⟨rfl, rfl, rfl, rfl, trivial⟩, ⟨by simp only at *; omega, hG4.trans hG5, hW2, doW_ok hok kd a b c, ⟨by simp only at *; omega, by simp only at *; omega⟩, hK⟩, by simp only at *; omega⟩
        · skip
          refine cl Tryz.call25 rfl (l92EventJ_c (rb := rb) 2 hK rfl hcode hlen (by first | omega | (simp only; omega)) (by simp only at *; omega) hW hok) ?_
          rintro _ w ⟨kd, a, b, c, p2, rfl, r1, r2, hK⟩
          replace hS : (fun w => K e w G4 L) w := K.sl hK (by repeat' (first | exact List.Sublist.refl _ | refine List.Sublist.cons_cons _ ?_ | refine List.Sublist.cons _ ?_ | refine List.Sublist.trans ?_ (List.sublist_append_right _ _)))
          refine xn (fun w => K e w G4 L) hS (fun _ h => h) ?_
          refine xe (i := 0) (l' := [true, true, true, true, false, false]) (by kernel_rfl) rfl rfl ?_
          refine vl (lsO hK Ty.a30 Ty.s30 0 rfl rfl rfl) <| ?_
          replace hS : (fun w => K e w G4 L) w := K.sl hK (by repeat' (first | exact List.Sublist.refl _ | refine List.Sublist.cons_cons _ ?_ | refine List.Sublist.cons _ ?_ | refine List.Sublist.trans ?_ (List.sublist_append_right _ _)))
          refine xn (fun w => K e w G4 L) hS (fun _ h => h) ?_
          refine xe (i := 4) (l' := [true, true, true, true, true, false]) (by kernel_rfl) rfl rfl ?_
          refine cl Tryz.call24 rfl (l51Do_c hK hW hok.wda) ?_
          rintro _ w ⟨G5, W2, rs2, hG5, rfl, hW2, hK⟩
          replace hS : (fun w => K e w G4 L) w := (K.vle (K.sl hK (by repeat' (first | exact List.Sublist.refl _ | refine List.Sublist.cons_cons _ ?_ | refine List.Sublist.cons _ ?_ | refine List.Sublist.trans ?_ (List.sublist_append_right _ _)))) hG5)
          refine xn (fun w => K e w G4 L) hS (fun _ h => h) ?_
          refine xe (i := 5) (l' := [true, true, true, true, true, true]) (by kernel_rfl) rfl rfl ?_
          refine soS hK Ty.i30 0 rfl rfl rfl rfl (WdS.one hW2) rfl ?_
          intro w hK
          replace hS : (fun w => K e w G4 L) w := (K.vle (K.sl hK (by repeat' (first | exact List.Sublist.refl _ | refine List.Sublist.cons_cons _ ?_ | refine List.Sublist.cons _ ?_ | refine List.Sublist.trans ?_ (List.sublist_append_right _ _)))) hG5)
          refine xn (fun w => K e w G4 L) hS (fun _ h => h) ?_
          refine xd (by kernel_rfl) <| bkn <| thn <| rg <| vl (mvv (v := .int _ _) rfl) <| vl (ad rfl rfl (by first | omega | (simp only; omega)) (by first | omega | (simp only; omega))) <| vl (asv (v := .int _ _) rfl) <| nl <| thn <| ?_
          exact ⟨(i + 1, G5, W2, _, rs2, p2), ⟨rfl, rfl, rfl, rfl, trivial⟩, ⟨by simp only at *; omega, hG4.trans hG5, hW2, doW_ok hok kd a b c, ⟨by simp only at *; omega, by simp only at *; omega⟩, hK⟩, by simp only at *; omega⟩
    · skip
      refine ex <| the <| the <| bkh <| thn <| sq <| rg <| ?_
      refine vl (lsO hK Ty.a30 Ty.s30 0 rfl rfl rfl) <| ?_
      refine soS hK Ty.i30 1 rfl rfl rfl rfl (WdS.one hW) rfl ?_
      intro w hK
      refine nl <| thn <| rt <| pg1r (rvS hK Ty.a30 Ty.s30 1 rfl rfl rfl) <| ?_
      exact ⟨G4, W, wd, rs, _, hG.trans hG4, rfl, hW, hok, by simp only at *; omega, by simp only at *; omega, hK.drop1.drop1⟩
end
end Go.Proofs.YtjfjnmbgimfmaaaGreat
