/- Contracts of the specification's steps of leases. Conditions: those that each row states. -/
import Derived.Test.YtmgggljicpmndaaGreatDoorWi
import Derived.Test.YtmgggljicpmndaaGreatDoorAo
namespace Go.Proofs.YtmgggljicpmndaaGreatDoor
open Go Go.Ro Tryz
section
variable {e w : World} {G : View} {L A : Own} {v u : Value} {xs ys : List Int} {ls ms : List Ls} {fr at' to un key now : Int} {i j : Nat} {x : Ls}
theorem l12Set_c (hK : K e w G L) (hv : LeaS G v ls) (hi : i < ls.length) (hl : ls.length ≤ 1000) : Ret prog 142 #[v, .int .i64 (i : Int), .agg (lc x).toArray] w (fun r w' => ∃ G', VLe G G' ∧ LeaS G' r (ls.set i x) ∧ K e w' G' L) := by
 refine enter1 (args := [v, .int .i64 (i : Int), .agg (lc x).toArray]) func142 rfl rfl rfl rfl ?_
 refine sq <| rg <| ?_
 refine bx hK rfl rfl ?_
 intro b5 w hK
 refine vl asg <| nl <| thn <| sq <| rg <| ?_
 refine bs0 hK underlying26 Ty.i101 ?_
 intro b8 w hK
 refine vl mv <| ?_
 refine apE (A := [(b8, row [] 101)]) (xs := []) (c := lc) (fun _ => rfl) rfl (fun _ => rfl) hK underlying26 Ty.i101 rfl rfl rfl OS.none rfl hv (by simp; omega) fun v' A' w ho hK => ?_
 simp only [List.nil_append] at ho
 replace hK := K.mid (A := A') (B := [_]) hK
 refine vl asg <| nl <| thn <| sq <| rg <| vl mv <| vl (mI rfl) <| vl (lsO hK Ty.a101 Ty.s101 0 rfl rfl rfl) <| vl (ixn underlying26 Ty.s101 rfl ho.slw rfl om) <| ?_
 refine osSetS (i := i) (us := lc x) (K.mid (A := [_]) (B := A') hK) ho om Ty.i101 rfl rfl rfl rfl fun A2 w ho2 hK => ?_
 rw [flat_sets (c := lc) (sz := 3) (fun _ => rfl) _ i x hi] at ho2
 refine nl <| thn <| sq <| rg <| vl mv <| vl asg <| nl <| thn <| rt <| p1r (a := _) rfl <| ?_
 obtain ⟨G2, hG2, hx, hK⟩ := K.pubE (c := lc) (xs := ls.set i x) (fun _ => rfl) hK (by rw [List.length_set]; exact ho2)
 exact ⟨G2, hG2, hx, hK.drop1⟩
theorem specLeaseTake_c (hK : K e w G L) (hv : LeaS G v ls) : Ret prog 102 #[v, .int .i64 key, .int .i64 at', .int .i64 now, .int .i64 un] w (fun r w' => ∃ G', VLe G G' ∧ LsA lc G' r (tkL ls (Pt key ∧ Pt at' ∧ Tm now ∧ Tm un) (takeL ls key at' now un)) ∧ K e w' G' L) := by
 refine enter2 (args := [v, .int .i64 key, .int .i64 at', .int .i64 now, .int .i64 un]) func102 rfl rfl rfl rfl ?_
 refine sq <| rg <| ?_
 refine vl asg <| vl (aB rfl) <| nl <| thn <| sq <| sq <| rg <| vl mv <| ?_
 refine cl call73 rfl (specLeasesValid_c hK (by assumption)) ?_
 rintro _ w ⟨rfl, hK⟩
 refine vl (ntB rfl) <| vl (mB rfl) <| ?_
 refine spl (t := 16) rfl (fun h1 => ?_) fun h1 => ?_
 ·have h1' := not_dec (Eq.mp (Bool.not_eq_true' _) h1)
  refine gn rfl <| gn rfl <| gn rfl <| vl (pk rfl) <| vl (mB rfl) <| gn rfl <| gn rfl <| gn rfl <| vl (pk rfl) <| vl (mB rfl) <| gn rfl <| gn rfl <| gn rfl <| vl (pk rfl) <| vl (mB rfl) <| gn rfl <| gn rfl <| gn rfl <| vl (pk rfl) <| nl <| thn <| ?_
  refine cdt rfl ?_
  refine sq <| rg <| ?_
  refine bs0 hK underlying26 Ty.i101 ?_
  intro b36 w hK
  refine vl asg <| vl (aB rfl) <| nl <| thn <| rt <| thr <| p2r (a := _) (b := .bool _) rfl rfl <| ?_
  exact ⟨_, VLe.refl _, LsA.mk (tkL_no (fun h => h1' h.1)) SlR.lit0, hK.drop1⟩
 ·have h1' := of_dec (Eq.mp (Bool.not_eq_false' _) h1)
  have hlen := h1'.1.2
  have hlt := lAt_lt (ls := ls) (k := key) (by have := h1'.1; omega)
  have hat := lsAt_eq hlt
  refine gy rfl <| vl (mI rfl) <| gy rfl <| ?_
  refine cl call99 rfl (l1Point_c (C := fun w => K _ w _ _) hK) ?_
  rintro _ w ⟨rfl, hK⟩
  refine gy rfl <| vl (nt rfl) <| vl (pk rfl) <| vl (mB rfl) <| ?_
  refine splP (t := 21) rfl (fun h2 => ?_) fun h2 => ?_
  ·refine gn rfl <| gn rfl <| gn rfl <| vl (pk rfl) <| vl (mB rfl) <| gn rfl <| gn rfl <| gn rfl <| vl (pk rfl) <| vl (mB rfl) <| gn rfl <| gn rfl <| gn rfl <| vl (pk rfl) <| nl <| thn <| ?_
   refine cdt rfl ?_
   refine sq <| rg <| ?_
   refine bs0 hK underlying26 Ty.i101 ?_
   intro b36 w hK
   refine vl asg <| vl (aB rfl) <| nl <| thn <| rt <| thr <| p2r (a := _) (b := .bool _) rfl rfl <| ?_
   exact ⟨_, VLe.refl _, LsA.mk (tkL_no (fun h => h2 h.2.1)) SlR.lit0, hK.drop1⟩
  ·have h2' := Decidable.not_not.1 h2
   refine gy rfl <| vl (mI rfl) <| gy rfl <| ?_
   refine cl call99 rfl (l1Point_c (C := fun w => K _ w _ _) hK) ?_
   rintro _ w ⟨rfl, hK⟩
   refine gy rfl <| vl (nt rfl) <| vl (pk rfl) <| vl (mB rfl) <| ?_
   refine splP (t := 26) rfl (fun h3 => ?_) fun h3 => ?_
   ·refine gn rfl <| gn rfl <| gn rfl <| vl (pk rfl) <| vl (mB rfl) <| gn rfl <| gn rfl <| gn rfl <| vl (pk rfl) <| nl <| thn <| ?_
    refine cdt rfl ?_
    refine sq <| rg <| ?_
    refine bs0 hK underlying26 Ty.i101 ?_
    intro b36 w hK
    refine vl asg <| vl (aB rfl) <| nl <| thn <| rt <| thr <| p2r (a := _) (b := .bool _) rfl rfl <| ?_
    exact ⟨_, VLe.refl _, LsA.mk (tkL_no (fun h => h3 h.2.2.1)) SlR.lit0, hK.drop1⟩
   ·have h3' := Decidable.not_not.1 h3
    refine gy rfl <| vl (mI rfl) <| gy rfl <| ?_
    refine cl call71 rfl (l12Time_c (C := fun w => K _ w _ _) hK) ?_
    rintro _ w ⟨rfl, hK⟩
    refine gy rfl <| vl (nt rfl) <| vl (pk rfl) <| vl (mB rfl) <| ?_
    refine splP (t := 31) rfl (fun h4 => ?_) fun h4 => ?_
    ·refine gn rfl <| gn rfl <| gn rfl <| vl (pk rfl) <| nl <| thn <| ?_
     refine cdt rfl ?_
     refine sq <| rg <| ?_
     refine bs0 hK underlying26 Ty.i101 ?_
     intro b36 w hK
     refine vl asg <| vl (aB rfl) <| nl <| thn <| rt <| thr <| p2r (a := _) (b := .bool _) rfl rfl <| ?_
     exact ⟨_, VLe.refl _, LsA.mk (tkL_no (fun h => h4 h.2.2.2.1)) SlR.lit0, hK.drop1⟩
    ·have h4' := Decidable.not_not.1 h4
     refine gy rfl <| vl (mI rfl) <| gy rfl <| ?_
     refine cl call71 rfl (l12Time_c (C := fun w => K _ w _ _) hK) ?_
     rintro _ w ⟨rfl, hK⟩
     refine gy rfl <| vl (nt rfl) <| vl (pk rfl) <| nl <| thn <| ?_
     refine cdP rfl (fun h5 => ?_) fun h5 => ?_
     ·refine sq <| rg <| ?_
      refine bs0 hK underlying26 Ty.i101 ?_
      intro b36 w hK
      refine vl asg <| vl (aB rfl) <| nl <| thn <| rt <| thr <| p2r (a := _) (b := .bool _) rfl rfl <| ?_
      exact ⟨_, VLe.refl _, LsA.mk (tkL_no (fun h => h5 h.2.2.2.2)) SlR.lit0, hK.drop1⟩
     ·have h5' := Decidable.not_not.1 h5
      refine sk <| thn <| sq <| rg <| ?_
      refine vl mv <| vl (mI rfl) <| ?_
      refine cl call141 rfl (l12At_c hK (by assumption)) ?_
      rintro _ w ⟨rfl, hK⟩
      refine vl (aI rfl) <| nl <| thn <| sq <| sq <| rg <| vl mv <| vl (mI rfl) <| vl (ixm (m := lAt ls key) underlying26 Ty.s101 rfl hv.1 rfl om om) <| vl (fe underlying101 rfl Ty.z3 rfl hv.1 om) <| vl (ldV hK Ty.o3 rfl (hv.cell om 2 rfl)) <| vl (mI rfl) <| vl (ge rfl rfl) <| nl <| thn <| ?_
      have hok : LsOk ls ∧ (Pt key ∧ Pt at' ∧ Tm now ∧ Tm un) := ⟨h1', h2', h3', h4', h5'⟩
      refine cdP rfl (fun hc => ?_) fun hc => ?_
      ·have hc' : takeL ls key at' now un = none := if_pos (by rw [← hat]; omega)
       refine sq <| rg <| ?_
       refine bs0 hK underlying26 Ty.i101 ?_
       intro b47 w hK
       refine vl mv <| ?_
       refine apE (A := [(b47, row [] 101)]) (xs := []) (c := lc) (fun _ => rfl) rfl (fun _ => rfl) hK underlying26 Ty.i101 rfl rfl rfl OS.none rfl hv (by simp; omega) fun v' A' w ho hK => ?_
       simp only [List.nil_append] at ho
       refine vl asg <| vl (aB rfl) <| nl <| thn <| rt <| thr <| p2r (a := _) (b := .bool _) rfl rfl <| ?_
       obtain ⟨G2, hG2, hx, hK⟩ := K.pubE (c := lc) (xs := ls) (fun _ => rfl) hK ho
       exact ⟨G2, hG2, LsA.mk (tkL_none hok hc') hx, hK⟩
      ·have hc' : takeL ls key at' now un = some (ls.set (lAt ls key) ((lsAt ls key).1, at', un)) := if_neg (by rw [← hat]; omega)
       refine sk <| thn <| sq <| rg <| ?_
       refine vl mv <| vl (mI rfl) <| vl mv <| vl (mI rfl) <| vl (ixm (m := lAt ls key) underlying26 Ty.s101 rfl hv.1 rfl om om) <| vl (fe underlying101 rfl Ty.z3 rfl hv.1 om) <| vl (ldV hK Ty.o3 rfl (hv.cell om 0 rfl)) <| vl (mI rfl) <| vl (mI rfl) <| vl (bd [(0, _), (1, _), (2, _)] Ty.p101 Ty.i101 rfl ⟨⟨rfl, rfl⟩, ⟨rfl, rfl⟩, ⟨rfl, rfl⟩, trivial⟩ rfl) <| ?_
       refine cl call142 rfl (l12Set_c (x := (ls[lAt ls key].1, at', un)) hK hv hlt om) ?_
       rintro v2 w ⟨G2, hG2, hx, hK⟩
       refine vl asg <| vl (aB rfl) <| nl <| thn <| rt <| p2r (a := _) (b := .bool _) rfl rfl <| ?_
       rw [← hat] at hc'
       exact ⟨G2, hG2, LsA.mk (tkL_some hok hc') hx, hK⟩
set_option maxHeartbeats 4000000 in
theorem specLeaseHand_c (hK : K e w G L) (hv : LeaS G v ls) : Ret prog 101 #[v, .int .i64 fr, .int .i64 at', .int .i64 to, .int .i64 un] w (fun r w' => ∃ G', VLe G G' ∧ LsA lc G' r (tkL ls (Pt fr ∧ Pt at' ∧ Pt to ∧ Tm un) (handL ls fr at' to un)) ∧ K e w' G' L) := by
 refine enter2 (args := [v, .int .i64 fr, .int .i64 at', .int .i64 to, .int .i64 un]) func101 rfl rfl rfl rfl ?_
 refine sq <| rg <| ?_
 refine vl asg <| vl (aB rfl) <| nl <| thn <| sq <| sq <| rg <| vl mv <| ?_
 refine cl call73 rfl (specLeasesValid_c hK (by assumption)) ?_
 rintro _ w ⟨rfl, hK⟩
 refine vl (ntB rfl) <| vl (mB rfl) <| ?_
 refine spl (t := 17) rfl (fun h1 => ?_) fun h1 => ?_
 ·have h1' := not_dec (Eq.mp (Bool.not_eq_true' _) h1)
  refine gn rfl <| gn rfl <| gn rfl <| vl (pk rfl) <| vl (mB rfl) <| gn rfl <| gn rfl <| gn rfl <| vl (pk rfl) <| vl (mB rfl) <| gn rfl <| gn rfl <| gn rfl <| vl (pk rfl) <| vl (mB rfl) <| gn rfl <| gn rfl <| gn rfl <| vl (pk rfl) <| nl <| thn <| ?_
  refine cdt rfl ?_
  refine sq <| rg <| ?_
  refine bs0 hK underlying26 Ty.i101 ?_
  intro b37 w hK
  refine vl asg <| vl (aB rfl) <| nl <| thn <| rt <| thr <| p2r (a := _) (b := .bool _) rfl rfl <| ?_
  exact ⟨_, VLe.refl _, LsA.mk (tkL_no (fun h => h1' h.1)) SlR.lit0, hK.drop1⟩
 ·have h1' := of_dec (Eq.mp (Bool.not_eq_false' _) h1)
  have hlen := h1'.1.2
  have hlt := lAt_lt (ls := ls) (k := at') (by have := h1'.1; omega)
  have hat := lsAt_eq hlt
  refine gy rfl <| vl (mI rfl) <| gy rfl <| ?_
  refine cl call99 rfl (l1Point_c (C := fun w => K _ w _ _) hK) ?_
  rintro _ w ⟨rfl, hK⟩
  refine gy rfl <| vl (nt rfl) <| vl (pk rfl) <| vl (mB rfl) <| ?_
  refine splP (t := 22) rfl (fun h2 => ?_) fun h2 => ?_
  ·refine gn rfl <| gn rfl <| gn rfl <| vl (pk rfl) <| vl (mB rfl) <| gn rfl <| gn rfl <| gn rfl <| vl (pk rfl) <| vl (mB rfl) <| gn rfl <| gn rfl <| gn rfl <| vl (pk rfl) <| nl <| thn <| ?_
   refine cdt rfl ?_
   refine sq <| rg <| ?_
   refine bs0 hK underlying26 Ty.i101 ?_
   intro b37 w hK
   refine vl asg <| vl (aB rfl) <| nl <| thn <| rt <| thr <| p2r (a := _) (b := .bool _) rfl rfl <| ?_
   exact ⟨_, VLe.refl _, LsA.mk (tkL_no (fun h => h2 h.2.1)) SlR.lit0, hK.drop1⟩
  ·have h2' := Decidable.not_not.1 h2
   refine gy rfl <| vl (mI rfl) <| gy rfl <| ?_
   refine cl call99 rfl (l1Point_c (C := fun w => K _ w _ _) hK) ?_
   rintro _ w ⟨rfl, hK⟩
   refine gy rfl <| vl (nt rfl) <| vl (pk rfl) <| vl (mB rfl) <| ?_
   refine splP (t := 27) rfl (fun h3 => ?_) fun h3 => ?_
   ·refine gn rfl <| gn rfl <| gn rfl <| vl (pk rfl) <| vl (mB rfl) <| gn rfl <| gn rfl <| gn rfl <| vl (pk rfl) <| nl <| thn <| ?_
    refine cdt rfl ?_
    refine sq <| rg <| ?_
    refine bs0 hK underlying26 Ty.i101 ?_
    intro b37 w hK
    refine vl asg <| vl (aB rfl) <| nl <| thn <| rt <| thr <| p2r (a := _) (b := .bool _) rfl rfl <| ?_
    exact ⟨_, VLe.refl _, LsA.mk (tkL_no (fun h => h3 h.2.2.1)) SlR.lit0, hK.drop1⟩
   ·have h3' := Decidable.not_not.1 h3
    refine gy rfl <| vl (mI rfl) <| gy rfl <| ?_
    refine cl call99 rfl (l1Point_c (C := fun w => K _ w _ _) hK) ?_
    rintro _ w ⟨rfl, hK⟩
    refine gy rfl <| vl (nt rfl) <| vl (pk rfl) <| vl (mB rfl) <| ?_
    refine splP (t := 32) rfl (fun h4 => ?_) fun h4 => ?_
    ·refine gn rfl <| gn rfl <| gn rfl <| vl (pk rfl) <| nl <| thn <| ?_
     refine cdt rfl ?_
     refine sq <| rg <| ?_
     refine bs0 hK underlying26 Ty.i101 ?_
     intro b37 w hK
     refine vl asg <| vl (aB rfl) <| nl <| thn <| rt <| thr <| p2r (a := _) (b := .bool _) rfl rfl <| ?_
     exact ⟨_, VLe.refl _, LsA.mk (tkL_no (fun h => h4 h.2.2.2.1)) SlR.lit0, hK.drop1⟩
    ·have h4' := Decidable.not_not.1 h4
     refine gy rfl <| vl (mI rfl) <| gy rfl <| ?_
     refine cl call71 rfl (l12Time_c (C := fun w => K _ w _ _) hK) ?_
     rintro _ w ⟨rfl, hK⟩
     refine gy rfl <| vl (nt rfl) <| vl (pk rfl) <| nl <| thn <| ?_
     refine cdP rfl (fun h5 => ?_) fun h5 => ?_
     ·refine sq <| rg <| ?_
      refine bs0 hK underlying26 Ty.i101 ?_
      intro b37 w hK
      refine vl asg <| vl (aB rfl) <| nl <| thn <| rt <| thr <| p2r (a := _) (b := .bool _) rfl rfl <| ?_
      exact ⟨_, VLe.refl _, LsA.mk (tkL_no (fun h => h5 h.2.2.2.2)) SlR.lit0, hK.drop1⟩
     ·have h5' := Decidable.not_not.1 h5
      refine sk <| thn <| sq <| rg <| ?_
      refine vl mv <| vl (mI rfl) <| ?_
      refine cl call141 rfl (l12At_c hK (by assumption)) ?_
      rintro _ w ⟨rfl, hK⟩
      refine vl (aI rfl) <| nl <| thn <| sq <| rg <| vl (mI rfl) <| vl (mI rfl) <| vl (mI rfl) <| vl (bd [(0, _), (1, _), (2, _)] Ty.p101 Ty.i101 rfl ⟨⟨rfl, rfl⟩, ⟨rfl, rfl⟩, ⟨rfl, rfl⟩, trivial⟩ rfl) <| ?_
      refine al hK Ty.i101 rfl ?_
      intro b13 w hK
      refine soS hK Ty.i101 0 rfl rfl rfl rfl rfl rfl ?_
      intro w hK
      refine nl <| thn <| sq <| bk <| sq <| rg <| vl mv <| vl (mI rfl) <| vl (ixm (m := lAt ls at') underlying26 Ty.s101 rfl hv.1 rfl om om) <| vl (fe underlying101 rfl Ty.z3 rfl hv.1 om) <| vl (ldV hK Ty.o3 rfl (hv.cell om 1 rfl)) <| vl (mI rfl) <| vl (ne rfl rfl) <| vl (aB rfl) <| nl <| thn <| ?_
      have hok : LsOk ls ∧ (Pt fr ∧ Pt at' ∧ Pt to ∧ Tm un) := ⟨h1', h2', h3', h4', h5'⟩
      refine cdP rfl (fun hc => ?_) fun hc => ?_
      ·have hc' : (lsAt ls at').2.1 ≠ fr := by rw [← hat]; exact hc
       refine sq <| rg <| ?_
       refine bs0 hK underlying26 Ty.i101 ?_
       intro b53 w hK
       refine vl mv <| ?_
       replace hK := K.swp hK
       refine apE (A := [(b53, row [] 101)]) (xs := []) (c := lc) (fun _ => rfl) rfl (fun _ => rfl) (K.swp hK) underlying26 Ty.i101 rfl rfl rfl OS.none rfl hv (by simp; omega) fun v' A' w ho hK => ?_
       simp only [List.nil_append] at ho
       refine vl asg <| vl (aB rfl) <| nl <| thn <| rt <| bkr <| thr <| p2r (a := _) (b := .bool _) rfl rfl <| ?_
       obtain ⟨G2, hG2, hx, hK⟩ := K.pubE (c := lc) (xs := ls) (fun _ => rfl) hK ho
       exact ⟨G2, hG2, LsA.mk (tkL_none hok (handL_1 hc')) hx, hK.drop1⟩
      ·have hc' : (lsAt ls at').2.1 = fr := by rw [← hat]; exact Decidable.not_not.1 hc
       refine sq <| rg <| ?_
       refine vl mv <| vl (mI rfl) <| vl (ixm (m := lAt ls at') underlying26 Ty.s101 rfl hv.1 rfl om om) <| vl (fe underlying101 rfl Ty.z3 rfl hv.1 om) <| vl (ldV hK Ty.o3 rfl (hv.cell om 0 rfl)) <| vl (mI rfl) <| vl (eq rfl rfl) <| vl (aB rfl) <| nl <| thn <| ?_
       refine cdP rfl (fun hd => ?_) fun hd => ?_
       ·have hd' : (lsAt ls at').1 = at' := by rw [← hat]; exact hd
        refine sq <| rg <| ?_
        refine vl mv <| vl (mI rfl) <| vl (lsO hK Ty.a101 Ty.s101 0 rfl rfl rfl) <| ?_
        refine cl call142 rfl (l12Set_c (x := (at', to, un)) hK hv hlt om) ?_
        rintro v2 w ⟨G2, hG2, hx, hK⟩
        refine vl asg <| vl (aB rfl) <| nl <| thn <| rt <| bkr <| thr <| p2r (a := _) (b := .bool _) rfl rfl <| ?_
        exact ⟨G2, hG2, LsA.mk (tkL_some hok (handL_2 hc' hd')) hx, hK.drop1⟩
       ·have hd' : (lsAt ls at').1 ≠ at' := by rw [← hat]; exact hd
        refine sq <| rg <| ?_
        refine vl mv <| vl (ln underlying26 rfl hv.len) <| vl (ge rfl rfl) <| vl (aB rfl) <| nl <| thn <| ?_
        refine cdP rfl (fun hf => ?_) fun hf => ?_
        ·refine sq <| rg <| ?_
         refine bs0 hK underlying26 Ty.i101 ?_
         intro b72 w hK
         refine vl mv <| ?_
         refine apE (A := [(b72, row [] 101)]) (xs := []) (c := lc) (fun _ => rfl) rfl (fun _ => rfl) hK underlying26 Ty.i101 rfl rfl rfl OS.none rfl hv (by simp; omega) fun v' A' w ho hK => ?_
         simp only [List.nil_append] at ho
         refine vl asg <| vl (aB rfl) <| nl <| thn <| rt <| bkr <| thr <| p2r (a := _) (b := .bool _) rfl rfl <| ?_
         obtain ⟨G2, hG2, hx, hK⟩ := K.pubE (c := lc) (xs := ls) (fun _ => rfl) hK ho
         exact ⟨G2, hG2, LsA.mk (tkL_none hok (handL_3 hc' hd' (by omega))) hx, hK.drop1⟩
        ·refine sk <| bkn <| thn <| sq <| rg <| ?_
         refine vl (aI rfl) <| nl <| thn <| sq <| bk <| ?_
         refine lp (σ := Nat) (fun k => [(0, v), (2, .int .i64 at'), (12, .int .i64 (k : Int)), (13, .pointer (some ⟨b13, 0, none⟩))]) (fun k w => k ≤ ls.length ∧ (∀ x ∈ ls.take k, x.1 < at') ∧ K e w G ((b13, row (lc (at', to, un)) 101) :: L)) (fun k => ls.length - k) 0 ⟨rfl, rfl, rfl, rfl, trivial⟩ ⟨Nat.zero_le _, by simp, hK⟩ ?_
         rintro k g w ⟨hk, hka, hK⟩
         refine sq <| sq <| rg <| ?_
         refine vl (mI rfl) <| vl mv <| vl (ln underlying26 rfl hv.len) <| vl (lt rfl rfl) <| vl (mB rfl) <| ?_
         refine splP (t := 79) rfl (fun h8 => ?_) fun h8 => ?_
         ·have hk' : k < ls.length := by omega
          refine gy rfl <| vl mv <| gy rfl <| vl (mI rfl) <| gy rfl <| vl (ixn underlying26 Ty.s101 rfl hv.1 rfl om) <| gy rfl <| vl (fe underlying101 rfl Ty.z3 rfl hv.1 om) <| gy rfl <| vl (ldV hK Ty.o3 rfl (hv.cell om 0 rfl)) <| gy rfl <| vl (mI rfl) <| gy rfl <| vl (lt rfl rfl) <| vl (pk rfl) <| nl <| thn <| ?_
          refine cdP rfl (fun h9 => ?_) fun h9 => ?_
          ·refine sk <| thn <| bk <| rg <| ?_
           refine vl (mI rfl) <| vl (ad rfl rfl) <| vl (aI rfl) <| nl <| bkn <| thn <| ?_
           exact ⟨k + 1, ⟨rfl, rfl, rfl, rfl, trivial⟩, ⟨hk', all_snoc hk' hka h9, hK⟩, by omega⟩
          ·have hge : ∀ h : k < ls.length, decide (ls[k].1 < at') = false := fun _ => decide_eq_false h9
           have htw := tw_gen (p := fun x : Ls => decide (x.1 < at')) (fun x hx => decide_eq_true (hka x hx)) hge
           have hres := handL_4 (to := to) (un := un) hc' hd' (by omega)
           rw [htw.1, htw.2] at hres
           have hins : ([] ++ (ls.take k).drop 0 ++ [((at', to, un) : Ls)] ++ (ls.take ls.length).drop k) = ls.take k ++ (at', to, un) :: ls.drop k := by rw [List.drop_zero, List.nil_append, List.take_length, List.append_assoc]; rfl
           refine ex <| the <| the <| bkh <| thn <| sq <| ?_
           refine ct (σ := Value) (fun s => [(10, s), (11, .bool true)]) (fun s w => ∃ A', OS 3 101 s (ls.take k ++ (at', to, un) :: ls.drop k).length ((ls.take k ++ (at', to, un) :: ls.drop k).flatMap lc) A' ∧ K e w G (A' ++ L)) ?_ ?_
           ·skip
            refine rgs (fun w => K e w G ((b13, row (lc (at', to, un)) 101) :: L)) (fun w => K _ w _ _) [U,U,U,U,U,U,U,U,U,U,U,U,U,U] 14 Ty.mixed rfl rfl (hK.drawn _) ?_
            intro w hK
            have hS : (fun w => K e w G ((b13, row (lc (at', to, un)) 101) :: L)) w := (by first | exact hK | exact hK.drop1 | exact hK.drop1.drop1 | exact K.dropL hK | exact K.dropL hK.drop1 | exact (K.dropL hK).drop1)
            refine xt (i := 1) rfl kr rfl rfl (fun w hK => mv) hS <| xt (i := 2) rfl kr rfl rfl (fun w hK => (mI rfl)) hS <| xt (i := 3) rfl kr rfl rfl (fun w hK => (slHi (h := k) underlying26 Ty.s101 rfl hv.1 rfl om)) hS <| xt (i := 5) rfl kr rfl rfl (fun w hK => (lsO hK Ty.a101 Ty.s101 0 rfl rfl rfl)) hS <| xt (i := 8) rfl kr rfl rfl (fun w hK => mv) hS <| xt (i := 9) rfl kr rfl rfl (fun w hK => (mI rfl)) hS <| xt (i := 10) rfl kr rfl rfl (fun w hK => (slLo (l := k) underlying26 Ty.s101 rfl hv.1 rfl om)) hS <| ?_
            refine xe2 (i := 0) (j := 6) kr rfl rfl rfl rfl ?_ ?_
            ·refine bs0 hK underlying26 Ty.i101 ?_
             intro b90 w hK
             refine xnk ((by first | exact hK | exact hK.drop1 | exact hK.drop1.drop1 | exact K.dropL hK | exact K.dropL hK.drop1 | exact (K.dropL hK).drop1)) fun hS => ?_
             refine xe2 (i := 4) (j := 6) kr rfl rfl rfl rfl ?_ ?_
             ·skip
              refine apE (A := [(b90, row [] 101)]) (xs := []) (c := lc) (fun _ => rfl) rfl (fun _ => rfl) hK underlying26 Ty.i101 rfl rfl rfl OS.none rfl (hv.slc (Nat.zero_le _) hk) (by simp; omega) fun v1 A1 w ho1 hK => ?_
              refine xnk ((by first | exact hK | exact hK.drop1 | exact hK.drop1.drop1 | exact K.dropL hK | exact K.dropL hK.drop1 | exact (K.dropL hK).drop1)) fun hS => ?_
              refine xe (i := 6) kr rfl rfl ?_
              refine bsS1 hK underlying26 Ty.i101 rfl rfl rfl rfl rfl rfl ?_
              intro b96 w hK
              refine xnk ((by first | exact hK | exact hK.drop1 | exact hK.drop1.drop1 | exact K.dropL hK | exact K.dropL hK.drop1 | exact (K.dropL hK).drop1)) fun hS => ?_
              refine xe (i := 7) kr rfl rfl ?_
              refine apE1 (c := lc) (A := A1) (xs := [] ++ (ls.take k).drop 0) (k := (at', to, un)) (fun _ => rfl) rfl hK underlying26 Ty.i101 rfl rfl rfl ho1 rfl (by simp; omega) fun v2 A2 w ho2 hK => ?_
              refine xnk ((by first | exact hK | exact hK.drop1 | exact hK.drop1.drop1 | exact K.dropL hK | exact K.dropL hK.drop1 | exact (K.dropL hK).drop1)) fun hS => ?_
              refine xe (i := 11) kr rfl rfl ?_
              refine apE (c := lc) (fun _ => rfl) rfl (fun _ => rfl) hK underlying26 Ty.i101 rfl rfl rfl ho2 rfl (hv.slc hk (Nat.le_refl _)) (by simp; omega) fun v3 A3 w ho3 hK => ?_
              refine xnk ((by first | exact hK | exact hK.drop1 | exact hK.drop1.drop1 | exact K.dropL hK | exact K.dropL hK.drop1 | exact (K.dropL hK).drop1)) fun hS => ?_
              refine xt (i := 12) rfl kr rfl rfl (fun w hK => asg) hS <| xt (i := 13) rfl kr rfl rfl (fun w hK => (aB rfl)) hS <| xd kr <| ctn <| ?_
              exact ⟨v3, ⟨rfl, rfl, trivial⟩, A3, by rw [← hins]; exact ho3, K.dropX hK⟩
             ·refine bsS1 hK underlying26 Ty.i101 rfl rfl rfl rfl rfl rfl ?_
              intro b96 w hK
              refine xnk ((by first | exact hK | exact hK.drop1 | exact hK.drop1.drop1 | exact K.dropL hK | exact K.dropL hK.drop1 | exact (K.dropL hK).drop1)) fun hS => ?_
              refine xe (i := 4) kr rfl rfl ?_
              refine apE (A := [(b90, row [] 101)]) (xs := []) (c := lc) (fun _ => rfl) rfl (fun _ => rfl) (K.swp hK) underlying26 Ty.i101 rfl rfl rfl OS.none rfl (hv.slc (Nat.zero_le _) hk) (by simp; omega) fun v1 A1 w ho1 hK => ?_
              refine xnk ((by first | exact hK | exact hK.drop1 | exact hK.drop1.drop1 | exact K.dropL hK | exact K.dropL hK.drop1 | exact (K.dropL hK).drop1)) fun hS => ?_
              refine xe (i := 7) kr rfl rfl ?_
              refine apE1 (c := lc) (A := A1) (xs := [] ++ (ls.take k).drop 0) (k := (at', to, un)) (fun _ => rfl) rfl (K.mid (A := A1) (B := [_]) hK) underlying26 Ty.i101 rfl rfl rfl ho1 rfl (by simp; omega) fun v2 A2 w ho2 hK => ?_
              refine xnk ((by first | exact hK | exact hK.drop1 | exact hK.drop1.drop1 | exact K.dropL hK | exact K.dropL hK.drop1 | exact (K.dropL hK).drop1)) fun hS => ?_
              refine xe (i := 11) kr rfl rfl ?_
              refine apE (c := lc) (fun _ => rfl) rfl (fun _ => rfl) hK underlying26 Ty.i101 rfl rfl rfl ho2 rfl (hv.slc hk (Nat.le_refl _)) (by simp; omega) fun v3 A3 w ho3 hK => ?_
              refine xnk ((by first | exact hK | exact hK.drop1 | exact hK.drop1.drop1 | exact K.dropL hK | exact K.dropL hK.drop1 | exact (K.dropL hK).drop1)) fun hS => ?_
              refine xt (i := 12) rfl kr rfl rfl (fun w hK => asg) hS <| xt (i := 13) rfl kr rfl rfl (fun w hK => (aB rfl)) hS <| xd kr <| ctn <| ?_
              exact ⟨v3, ⟨rfl, rfl, trivial⟩, A3, by rw [← hins]; exact ho3, K.dropX hK⟩
            ·refine bsS1 hK underlying26 Ty.i101 rfl rfl rfl rfl rfl rfl ?_
             intro b96 w hK
             refine xnk ((by first | exact hK | exact hK.drop1 | exact hK.drop1.drop1 | exact K.dropL hK | exact K.dropL hK.drop1 | exact (K.dropL hK).drop1)) fun hS => ?_
             refine xe (i := 0) kr rfl rfl ?_
             refine bs0 hK underlying26 Ty.i101 ?_
             intro b90 w hK
             refine xnk ((by first | exact hK | exact hK.drop1 | exact hK.drop1.drop1 | exact K.dropL hK | exact K.dropL hK.drop1 | exact (K.dropL hK).drop1)) fun hS => ?_
             refine xe (i := 4) kr rfl rfl ?_
             refine apE (A := [(b90, row [] 101)]) (xs := []) (c := lc) (fun _ => rfl) rfl (fun _ => rfl) hK underlying26 Ty.i101 rfl rfl rfl OS.none rfl (hv.slc (Nat.zero_le _) hk) (by simp; omega) fun v1 A1 w ho1 hK => ?_
             refine xnk ((by first | exact hK | exact hK.drop1 | exact hK.drop1.drop1 | exact K.dropL hK | exact K.dropL hK.drop1 | exact (K.dropL hK).drop1)) fun hS => ?_
             refine xe (i := 7) kr rfl rfl ?_
             refine apE1 (c := lc) (A := A1) (xs := [] ++ (ls.take k).drop 0) (k := (at', to, un)) (fun _ => rfl) rfl (K.mid (A := A1) (B := [_]) hK) underlying26 Ty.i101 rfl rfl rfl ho1 rfl (by simp; omega) fun v2 A2 w ho2 hK => ?_
             refine xnk ((by first | exact hK | exact hK.drop1 | exact hK.drop1.drop1 | exact K.dropL hK | exact K.dropL hK.drop1 | exact (K.dropL hK).drop1)) fun hS => ?_
             refine xe (i := 11) kr rfl rfl ?_
             refine apE (c := lc) (fun _ => rfl) rfl (fun _ => rfl) hK underlying26 Ty.i101 rfl rfl rfl ho2 rfl (hv.slc hk (Nat.le_refl _)) (by simp; omega) fun v3 A3 w ho3 hK => ?_
             refine xnk ((by first | exact hK | exact hK.drop1 | exact hK.drop1.drop1 | exact K.dropL hK | exact K.dropL hK.drop1 | exact (K.dropL hK).drop1)) fun hS => ?_
             refine xt (i := 12) rfl kr rfl rfl (fun w hK => asg) hS <| xt (i := 13) rfl kr rfl rfl (fun w hK => (aB rfl)) hS <| xd kr <| ctn <| ?_
             exact ⟨v3, ⟨rfl, rfl, trivial⟩, A3, by rw [← hins]; exact ho3, K.dropX hK⟩
           ·rintro s g w ⟨A', ho', hK⟩
            refine thn <| rt <| p2r (a := _) (b := .bool _) rfl rfl <| ?_
            obtain ⟨G2, hG2, hx, hK⟩ := K.pubE (c := lc) (xs := ls.take k ++ (at', to, un) :: ls.drop k) (fun _ => rfl) hK ho'
            exact ⟨G2, hG2, LsA.mk (tkL_some hok hres) hx, hK⟩
         ·have hge : ∀ h : k < ls.length, decide (ls[k].1 < at') = false := fun h => by omega
          have htw := tw_gen (p := fun x : Ls => decide (x.1 < at')) (fun x hx => decide_eq_true (hka x hx)) hge
          have hres := handL_4 (to := to) (un := un) hc' hd' (by omega)
          rw [htw.1, htw.2] at hres
          have hins : ([] ++ (ls.take k).drop 0 ++ [((at', to, un) : Ls)] ++ (ls.take ls.length).drop k) = ls.take k ++ (at', to, un) :: ls.drop k := by rw [List.drop_zero, List.nil_append, List.take_length, List.append_assoc]; rfl
          refine gn rfl <| gn rfl <| gn rfl <| gn rfl <| gn rfl <| gn rfl <| gn rfl <| vl (pk rfl) <| nl <| thn <| ?_
          refine cdf rfl ?_
          refine ex <| the <| the <| bkh <| thn <| sq <| ?_
          refine ct (σ := Value) (fun s => [(10, s), (11, .bool true)]) (fun s w => ∃ A', OS 3 101 s (ls.take k ++ (at', to, un) :: ls.drop k).length ((ls.take k ++ (at', to, un) :: ls.drop k).flatMap lc) A' ∧ K e w G (A' ++ L)) ?_ ?_
          ·skip
           refine rgs (fun w => K e w G ((b13, row (lc (at', to, un)) 101) :: L)) (fun w => K _ w _ _) [U,U,U,U,U,U,U,U,U,U,U,U,U,U] 14 Ty.mixed rfl rfl (hK.drawn _) ?_
           intro w hK
           have hS : (fun w => K e w G ((b13, row (lc (at', to, un)) 101) :: L)) w := (by first | exact hK | exact hK.drop1 | exact hK.drop1.drop1 | exact K.dropL hK | exact K.dropL hK.drop1 | exact (K.dropL hK).drop1)
           refine xt (i := 1) rfl kr rfl rfl (fun w hK => mv) hS <| xt (i := 2) rfl kr rfl rfl (fun w hK => (mI rfl)) hS <| xt (i := 3) rfl kr rfl rfl (fun w hK => (slHi (h := k) underlying26 Ty.s101 rfl hv.1 rfl om)) hS <| xt (i := 5) rfl kr rfl rfl (fun w hK => (lsO hK Ty.a101 Ty.s101 0 rfl rfl rfl)) hS <| xt (i := 8) rfl kr rfl rfl (fun w hK => mv) hS <| xt (i := 9) rfl kr rfl rfl (fun w hK => (mI rfl)) hS <| xt (i := 10) rfl kr rfl rfl (fun w hK => (slLo (l := k) underlying26 Ty.s101 rfl hv.1 rfl om)) hS <| ?_
           refine xe2 (i := 0) (j := 6) kr rfl rfl rfl rfl ?_ ?_
           ·refine bs0 hK underlying26 Ty.i101 ?_
            intro b90 w hK
            refine xnk ((by first | exact hK | exact hK.drop1 | exact hK.drop1.drop1 | exact K.dropL hK | exact K.dropL hK.drop1 | exact (K.dropL hK).drop1)) fun hS => ?_
            refine xe2 (i := 4) (j := 6) kr rfl rfl rfl rfl ?_ ?_
            ·skip
             refine apE (A := [(b90, row [] 101)]) (xs := []) (c := lc) (fun _ => rfl) rfl (fun _ => rfl) hK underlying26 Ty.i101 rfl rfl rfl OS.none rfl (hv.slc (Nat.zero_le _) hk) (by simp; omega) fun v1 A1 w ho1 hK => ?_
             refine xnk ((by first | exact hK | exact hK.drop1 | exact hK.drop1.drop1 | exact K.dropL hK | exact K.dropL hK.drop1 | exact (K.dropL hK).drop1)) fun hS => ?_
             refine xe (i := 6) kr rfl rfl ?_
             refine bsS1 hK underlying26 Ty.i101 rfl rfl rfl rfl rfl rfl ?_
             intro b96 w hK
             refine xnk ((by first | exact hK | exact hK.drop1 | exact hK.drop1.drop1 | exact K.dropL hK | exact K.dropL hK.drop1 | exact (K.dropL hK).drop1)) fun hS => ?_
             refine xe (i := 7) kr rfl rfl ?_
             refine apE1 (c := lc) (A := A1) (xs := [] ++ (ls.take k).drop 0) (k := (at', to, un)) (fun _ => rfl) rfl hK underlying26 Ty.i101 rfl rfl rfl ho1 rfl (by simp; omega) fun v2 A2 w ho2 hK => ?_
             refine xnk ((by first | exact hK | exact hK.drop1 | exact hK.drop1.drop1 | exact K.dropL hK | exact K.dropL hK.drop1 | exact (K.dropL hK).drop1)) fun hS => ?_
             refine xe (i := 11) kr rfl rfl ?_
             refine apE (c := lc) (fun _ => rfl) rfl (fun _ => rfl) hK underlying26 Ty.i101 rfl rfl rfl ho2 rfl (hv.slc hk (Nat.le_refl _)) (by simp; omega) fun v3 A3 w ho3 hK => ?_
             refine xnk ((by first | exact hK | exact hK.drop1 | exact hK.drop1.drop1 | exact K.dropL hK | exact K.dropL hK.drop1 | exact (K.dropL hK).drop1)) fun hS => ?_
             refine xt (i := 12) rfl kr rfl rfl (fun w hK => asg) hS <| xt (i := 13) rfl kr rfl rfl (fun w hK => (aB rfl)) hS <| xd kr <| ctn <| ?_
             exact ⟨v3, ⟨rfl, rfl, trivial⟩, A3, by rw [← hins]; exact ho3, K.dropX hK⟩
            ·refine bsS1 hK underlying26 Ty.i101 rfl rfl rfl rfl rfl rfl ?_
             intro b96 w hK
             refine xnk ((by first | exact hK | exact hK.drop1 | exact hK.drop1.drop1 | exact K.dropL hK | exact K.dropL hK.drop1 | exact (K.dropL hK).drop1)) fun hS => ?_
             refine xe (i := 4) kr rfl rfl ?_
             refine apE (A := [(b90, row [] 101)]) (xs := []) (c := lc) (fun _ => rfl) rfl (fun _ => rfl) (K.swp hK) underlying26 Ty.i101 rfl rfl rfl OS.none rfl (hv.slc (Nat.zero_le _) hk) (by simp; omega) fun v1 A1 w ho1 hK => ?_
             refine xnk ((by first | exact hK | exact hK.drop1 | exact hK.drop1.drop1 | exact K.dropL hK | exact K.dropL hK.drop1 | exact (K.dropL hK).drop1)) fun hS => ?_
             refine xe (i := 7) kr rfl rfl ?_
             refine apE1 (c := lc) (A := A1) (xs := [] ++ (ls.take k).drop 0) (k := (at', to, un)) (fun _ => rfl) rfl (K.mid (A := A1) (B := [_]) hK) underlying26 Ty.i101 rfl rfl rfl ho1 rfl (by simp; omega) fun v2 A2 w ho2 hK => ?_
             refine xnk ((by first | exact hK | exact hK.drop1 | exact hK.drop1.drop1 | exact K.dropL hK | exact K.dropL hK.drop1 | exact (K.dropL hK).drop1)) fun hS => ?_
             refine xe (i := 11) kr rfl rfl ?_
             refine apE (c := lc) (fun _ => rfl) rfl (fun _ => rfl) hK underlying26 Ty.i101 rfl rfl rfl ho2 rfl (hv.slc hk (Nat.le_refl _)) (by simp; omega) fun v3 A3 w ho3 hK => ?_
             refine xnk ((by first | exact hK | exact hK.drop1 | exact hK.drop1.drop1 | exact K.dropL hK | exact K.dropL hK.drop1 | exact (K.dropL hK).drop1)) fun hS => ?_
             refine xt (i := 12) rfl kr rfl rfl (fun w hK => asg) hS <| xt (i := 13) rfl kr rfl rfl (fun w hK => (aB rfl)) hS <| xd kr <| ctn <| ?_
             exact ⟨v3, ⟨rfl, rfl, trivial⟩, A3, by rw [← hins]; exact ho3, K.dropX hK⟩
           ·refine bsS1 hK underlying26 Ty.i101 rfl rfl rfl rfl rfl rfl ?_
            intro b96 w hK
            refine xnk ((by first | exact hK | exact hK.drop1 | exact hK.drop1.drop1 | exact K.dropL hK | exact K.dropL hK.drop1 | exact (K.dropL hK).drop1)) fun hS => ?_
            refine xe (i := 0) kr rfl rfl ?_
            refine bs0 hK underlying26 Ty.i101 ?_
            intro b90 w hK
            refine xnk ((by first | exact hK | exact hK.drop1 | exact hK.drop1.drop1 | exact K.dropL hK | exact K.dropL hK.drop1 | exact (K.dropL hK).drop1)) fun hS => ?_
            refine xe (i := 4) kr rfl rfl ?_
            refine apE (A := [(b90, row [] 101)]) (xs := []) (c := lc) (fun _ => rfl) rfl (fun _ => rfl) hK underlying26 Ty.i101 rfl rfl rfl OS.none rfl (hv.slc (Nat.zero_le _) hk) (by simp; omega) fun v1 A1 w ho1 hK => ?_
            refine xnk ((by first | exact hK | exact hK.drop1 | exact hK.drop1.drop1 | exact K.dropL hK | exact K.dropL hK.drop1 | exact (K.dropL hK).drop1)) fun hS => ?_
            refine xe (i := 7) kr rfl rfl ?_
            refine apE1 (c := lc) (A := A1) (xs := [] ++ (ls.take k).drop 0) (k := (at', to, un)) (fun _ => rfl) rfl (K.mid (A := A1) (B := [_]) hK) underlying26 Ty.i101 rfl rfl rfl ho1 rfl (by simp; omega) fun v2 A2 w ho2 hK => ?_
            refine xnk ((by first | exact hK | exact hK.drop1 | exact hK.drop1.drop1 | exact K.dropL hK | exact K.dropL hK.drop1 | exact (K.dropL hK).drop1)) fun hS => ?_
            refine xe (i := 11) kr rfl rfl ?_
            refine apE (c := lc) (fun _ => rfl) rfl (fun _ => rfl) hK underlying26 Ty.i101 rfl rfl rfl ho2 rfl (hv.slc hk (Nat.le_refl _)) (by simp; omega) fun v3 A3 w ho3 hK => ?_
            refine xnk ((by first | exact hK | exact hK.drop1 | exact hK.drop1.drop1 | exact K.dropL hK | exact K.dropL hK.drop1 | exact (K.dropL hK).drop1)) fun hS => ?_
            refine xt (i := 12) rfl kr rfl rfl (fun w hK => asg) hS <| xt (i := 13) rfl kr rfl rfl (fun w hK => (aB rfl)) hS <| xd kr <| ctn <| ?_
            exact ⟨v3, ⟨rfl, rfl, trivial⟩, A3, by rw [← hins]; exact ho3, K.dropX hK⟩
          ·rintro s g w ⟨A', ho', hK⟩
           refine thn <| rt <| p2r (a := _) (b := .bool _) rfl rfl <| ?_
           obtain ⟨G2, hG2, hx, hK⟩ := K.pubE (c := lc) (xs := ls.take k ++ (at', to, un) :: ls.drop k) (fun _ => rfl) hK ho'
           exact ⟨G2, hG2, LsA.mk (tkL_some hok hres) hx, hK⟩
end
end Go.Proofs.YtmgggljicpmndaaGreatDoor
