/- The program's leases: what they give back lies in new memory. Conditions: those that each row states. -/
import Derived.Test.YtmgggljicpmndaaGreatDoorRv
import Derived.Test.YtmgggljicpmndaaGreatDoorType
namespace Go.Proofs.YtmgggljicpmndaaGreatDoor
open Go Go.Ro Tryz
section
variable {e w : World} {G G0 : View} {L A : Own} {v u : Value} {ls ms : List Ls} {k fr at' to un key now ow : Int} {i : Nat} {a0 a1 : Addr} {o : Option (List Ls)} {ok : Prop}
theorem granted1F_c (hG0 : VLe G0 G) (hK : K e w G L) (hE : ErrS 228 0 1 G a0 a1) (hv : LeaS G v ls) (hl : ls.length ≤ 1000000) : Ret prog 158 #[v, u, .iface 228 (.pointer (some a1))] w (fun r w' => ∃ G' v', VLe G G' ∧ r = .tuple #[v', .bool false] ∧ LeaS G' v' ls ∧ New 3 101 G0 G' v' ls.length (ls.flatMap lc) ∧ K e w' G' L) := by
 refine enter2 (args := [v, u, .iface 228 (.pointer (some a1))]) func158 rfl rfl rfl rfl ?_
 refine sq <| rg <| ?_
 refine vl asg <| vl (aB rfl) <| nl <| thn <| sq <| bk <| sq <| rg <| vl mv <| vl (ldV hK Ty.o160 rfl hE.1) <| ?_
 refine cl call194 rfl (isR_other hK (Ne.symm hE.2.2.1) hE.2.2.2.2 hE.2.2.2.1) ?_
 rintro _ w ⟨rfl, hK⟩
 refine vl (aB rfl) <| nl <| thn <| ?_
 refine cdB rfl (fun h1 => ?_) fun h1 => ?_
 ·cases h1
 ·refine sq <| rg <| ?_
  refine vl mv <| vl (ldV hK Ty.o160 rfl hE.2.1) <| ?_
  refine cl call194 rfl (isR_same hK a1) ?_
  rintro _ w ⟨rfl, hK⟩
  refine vl (aB rfl) <| nl <| thn <| ?_
  refine cdB rfl (fun h2 => ?_) fun h2 => ?_
  ·refine sq <| rg <| ?_
   refine vl mv <| ?_
   refine cl call92 rfl (cloneL_c hK hv hl) ?_
   rintro v' w ⟨A1, ho, hK⟩
   refine vl asg <| vl (aB rfl) <| nl <| thn <| rt <| bkr <| thr <| p2r (a := _) (b := .bool _) rfl rfl <| ?_
   obtain ⟨G1, hG1, hv1, hvn, hvb, hK⟩ := K.pubEF (c := lc) (fun _ => rfl) hK ho hG0
   exact ⟨G1, v', hG1, rfl, hv1, hvn, hK⟩
  ·cases h2
set_option maxHeartbeats 400000 in
theorem handF_c (hK : K e w G L) (hE : ErrS 228 0 1 G a0 a1) (hv : LeaS G v ls) :
  Ret prog 157 #[v, .int .i64 fr, .int .i64 at', .int .i64 to, .int .i64 un] w (fun r w' => ∃ G', VLe G G' ∧ HdF 101 228 a0 a1 lc G G' ls (Pt fr ∧ Pt at' ∧ Pt to ∧ Tm un) (handL ls fr at' to un) r ∧ K e w' G' L) := by
 refine enter2 (args := [v, .int .i64 fr, .int .i64 at', .int .i64 to, .int .i64 un]) func157 rfl rfl rfl rfl ?_
 refine sq <| rg <| ?_
 refine vl asg <| vl asg <| nl <| thn <| sq <| sq <| rg <| vl mv <| ?_
 refine cl call84 rfl (implLeasesValid_c hK hv) ?_
 rintro _ w ⟨rfl, hK⟩
 refine vl (ntB rfl) <| vl (mB rfl) <| ?_
 refine spl (t := 20) rfl (fun h1 => ?_) fun h1 => ?_
 ·have h1' := not_dec (Eq.mp (Bool.not_eq_true' _) h1)
  refine gn rfl <| gn rfl <| gn rfl <| gn rfl <| gn rfl <| gn rfl <| vl (pk rfl) <| vl (mB rfl) <| gn rfl <| gn rfl <| gn rfl <| gn rfl <| vl (pk rfl) <| nl <| thn <| ?_
  refine cdt rfl ?_
  refine sq <| ?_
  refine rgq (fun w => K _ w _ _) Ty.mixed kr (hK.drawn _) ?_
  refine qldV Ty.o160 rfl hE.1 <| qv (fun w hK => asg) <| qv (fun w hK => asg) <| qn <| ?_
  intro w hK
  refine thn <| rt <| thr <| p2r (a := _) (b := _) rfl rfl <| ?_
  exact ⟨_, VLe.refl _, .inl ⟨fun h => h1' h.1, rfl⟩, hK⟩
 ·have h1' := of_dec (Eq.mp (Bool.not_eq_false' _) h1)
  have hlen := h1'.1.2
  have hlt := lAt_lt (ls := ls) (k := at') (by have := h1'.1; omega)
  have hat := lsAt_eq hlt
  refine gy rfl <| vl (mI rfl) <| gy rfl <| vl (mI rfl) <| gy rfl <| vl (mI rfl) <| gy rfl <| ?_
  refine bsN [.tmp 21, .tmp 22, .tmp 23] hK underlying22 Ty.i3 rfl rfl rfl rfl rfl rfl rfl rfl ?_
  intro b24 w hK
  refine gy rfl <| ?_
  refine cl call136 rfl (positions_o (xs := [fr, at', to]) hK rfl) ?_
  rintro _ w ⟨rfl, hK⟩
  refine gy rfl <| vl (ntB rfl) <| vl (pk rfl) <| vl (mB rfl) <| ?_
  refine spl (t := 28) rfl (fun h2 => ?_) fun h2 => ?_
  ·have h2' := not_dec (Eq.mp (Bool.not_eq_true' _) h2)
   refine gn rfl <| gn rfl <| gn rfl <| gn rfl <| vl (pk rfl) <| nl <| thn <| ?_
   refine cdt rfl ?_
   refine sq <| ?_
   refine rgq (fun w => K _ w _ _) Ty.mixed kr (hK.drawn _) ?_
   refine qldV Ty.o160 rfl hE.1 <| qv (fun w hK => asg) <| qv (fun w hK => asg) <| qn <| ?_
   intro w hK
   refine thn <| rt <| thr <| p2r (a := _) (b := _) rfl rfl <| ?_
   exact ⟨_, VLe.refl _, .inl ⟨fun h => h2' (mk3 ⟨h.2.1, h.2.2.1, h.2.2.2.1⟩), rfl⟩, hK.drop1⟩
  ·have h2' := pt3 (of_dec (Eq.mp (Bool.not_eq_false' _) h2))
   refine gy rfl <| vl (mI rfl) <| gy rfl <| ?_
   refine bsN [.tmp 29] hK underlying22 Ty.i3 rfl rfl rfl rfl rfl rfl rfl rfl ?_
   intro b30 w hK
   refine gy rfl <| ?_
   refine cl call82 rfl (times_o (xs := [un]) hK rfl) ?_
   rintro _ w ⟨rfl, hK⟩
   refine gy rfl <| vl (ntB rfl) <| vl (pk rfl) <| nl <| thn <| ?_
   refine cdB rfl (fun h3 => ?_) fun h3 => ?_
   ·have h3' := not_dec (Eq.mp (Bool.not_eq_true' _) h3)
    refine sq <| ?_
    refine rgq (fun w => K _ w _ _) Ty.mixed kr (hK.drawn _) ?_
    refine qldV Ty.o160 rfl hE.1 <| qv (fun w hK => asg) <| qv (fun w hK => asg) <| qn <| ?_
    intro w hK
    refine thn <| rt <| thr <| p2r (a := _) (b := _) rfl rfl <| ?_
    exact ⟨_, VLe.refl _, .inl ⟨fun h => h3' (fun x hx => by obtain rfl := List.mem_singleton.1 hx; exact h.2.2.2.2), rfl⟩, hK.drop1.drop1⟩
   ·have h3' : Tm un := of_dec (Eq.mp (Bool.not_eq_false' _) h3) un (List.mem_cons_self ..)
    have hok : Pt fr ∧ Pt at' ∧ Pt to ∧ Tm un := ⟨h2'.1, h2'.2.1, h2'.2.2, h3'⟩
    replace hK := hK.drop1.drop1
    refine sk <| thn <| sq <| rg <| ?_
    refine vl mv <| vl (mI rfl) <| ?_
    refine cl call166 rfl (leaseAt_c hK hv) ?_
    rintro _ w ⟨rfl, hK⟩
    refine vl (aI rfl) <| nl <| thn <| sq <| sq <| rg <| vl mv <| vl (mI rfl) <| vl (ixm (m := lAt ls at') underlying26 Ty.s101 rfl hv.1 rfl om om) <| vl (fe underlying101 rfl Ty.z3 rfl hv.1 om) <| vl (ldV hK Ty.o3 rfl (hv.cell om 1 rfl)) <| vl (mI rfl) <| vl (ne rfl rfl) <| nl <| thn <| ?_
    refine cdP rfl (fun hc => ?_) fun hc => ?_
    ·have hc' : (lsAt ls at').2.1 ≠ fr := by rw [← hat]; exact hc
     refine sq <| ?_
     refine rgq (fun w => K _ w _ _) Ty.mixed kr (hK.drawn _) ?_
     refine qldV Ty.o160 rfl hE.2.1 <| qv (fun w hK => asg) <| qv (fun w hK => asg) <| qn <| ?_
     intro w hK
     refine thn <| rt <| thr <| p2r (a := _) (b := _) rfl rfl <| ?_
     exact ⟨_, VLe.refl _, .inr (.inl ⟨h1', hok, handL_1 hc', rfl⟩), hK⟩
    ·have hc' : (lsAt ls at').2.1 = fr := by rw [← hat]; exact Decidable.not_not.1 hc
     refine sk <| thn <| sq <| rg <| ?_
     refine vl mv <| ?_
     refine cl call92 rfl (cloneL_c hK hv om) ?_
     rintro v13 w ⟨A1, ho, hK⟩
     have hsl := ho.slw.len
     refine vl asg <| nl <| thn <| sq <| rg <| vl (mI rfl) <| vl (mI rfl) <| vl (mI rfl) <| vl (bd [(0, _), (1, _), (2, _)] Ty.p101 Ty.i101 rfl ⟨⟨rfl, rfl⟩, ⟨rfl, rfl⟩, ⟨rfl, rfl⟩, trivial⟩ rfl) <| ?_
     refine al hK Ty.i101 rfl ?_
     intro b14 w hK
     refine soS hK Ty.i101 0 rfl rfl rfl rfl rfl rfl ?_
     intro w hK
     refine nl <| thn <| sq <| sq <| rg <| vl mv <| vl (mI rfl) <| vl (ixn underlying26 Ty.s101 rfl ho.slw rfl hlt) <| vl (fe underlying101 rfl Ty.z3 rfl ho.slw om) <| vl (ldC Ty.o3 rfl (OS.fcell (c := lc) (fun _ => rfl) ho hK.drop1 (List.getElem?_eq_getElem hlt) (j := 0) rfl)) <| vl (mI rfl) <| vl (eq rfl rfl) <| nl <| thn <| ?_
     replace hK : K e w G ((b14, row (lc (at', to, un)) 101) :: (A1 ++ L)) := hK
     refine cdP rfl (fun hd => ?_) fun hd => ?_
     ·have hd' : (lsAt ls at').1 = at' := by rw [← hat]; exact hd
      refine sq <| rg <| ?_
      refine vl mv <| vl (mI rfl) <| vl (lsO hK Ty.a101 Ty.s101 0 rfl rfl rfl) <| vl (ixn underlying26 Ty.s101 rfl ho.slw rfl hlt) <| ?_
      refine osSetS (i := lAt ls at') (us := lc (at', to, un)) (K.mid1 hK) ho hlt Ty.i101 rfl rfl rfl rfl fun A' w ho hK => ?_
      rw [flat_sets (c := lc) (sz := 3) (fun _ => rfl) _ (lAt ls at') (at', to, un) hlt] at ho
      have ho' : OS 3 101 v13 (ls.set (lAt ls at') (at', to, un)).length ((ls.set (lAt ls at') (at', to, un)).flatMap lc) A' := by rw [List.length_set]; exact ho
      have hpub := K.pubEF lc_len hK ho' (VLe.refl _)
      clear ho ho' hK
      obtain ⟨G1, hG1, hx, hxn, hxb, hK⟩ := hpub
      refine nl <| thn <| sq <| rg <| vl mv <| vl asg <| vl asg <| nl <| thn <| rt <| thr <| p2r (a := _) (b := _) rfl rfl <| ?_
      exact ⟨G1, hG1, .inr (.inr ⟨_, _, h1', hok, handL_2 hc' hd', rfl, hx, hxn⟩), hK.drop1⟩
     ·have hd' : (lsAt ls at').1 ≠ at' := by rw [← hat]; exact hd
      refine sk <| thn <| sq <| sq <| rg <| ?_
      refine vl mv <| vl (ln underlying26 rfl (by assumption)) <| vl (eq rfl rfl) <| nl <| thn <| ?_
      refine cdP rfl (fun hfull => ?_) fun hfull => ?_
      ·refine sq <| ?_
       refine rgq (fun w => K _ w _ _) Ty.mixed kr (hK.drawn _) ?_
       refine qldV Ty.o160 rfl hE.2.1 <| qv (fun w hK => asg) <| qv (fun w hK => asg) <| qn <| ?_
       intro w hK
       refine thn <| rt <| thr <| p2r (a := _) (b := _) rfl rfl <| ?_
       exact ⟨_, VLe.refl _, .inr (.inl ⟨h1', hok, handL_3 hc' hd' (by omega), rfl⟩), hK.drop1.dropL⟩
      ·refine sk <| thn <| sq <| rg <| ?_
       refine vl mv <| vl (mI rfl) <| ?_
       refine cl call191 rfl (Ret.own (R := fun r => ∃ (i : Nat) (b : Bool), r = .tuple #[.int .i64 (i : Int), .bool b] ∧ BsR (fun x : Ls => x.1) ls at' i b) (K.mid1 hK) (fun hK' => bsearchL_c (cap := []) (key := fun x => x.1) call192 hK' (OS.ef (fun _ => rfl) ho) om h1'.2.2 (fun x hx w hK => hand1_c hK (h1'.2.1 x hx).1 hok.2.1))) ?_
       rintro _ w ⟨⟨i, b, rfl, hbs⟩, hK⟩
       replace hK := K.back1 hK
       refine vl mv <| vl (ext rfl rfl) <| vl (ext rfl rfl) <| vl (aI rfl) <| vl (aB rfl) <| nl <| thn <| sq <| rg <| vl mv <| vl (mI rfl) <| vl (lsO hK Ty.a101 Ty.s101 0 rfl rfl rfl) <| ?_
       refine bsS1 hK underlying26 Ty.i101 rfl rfl rfl rfl rfl rfl ?_
       intro b77 w hK
       replace hK : K _ _ _ ((b77, row (lc (at', to, un)) 101) :: (A1 ++ ((b14, row (lc (at', to, un)) 101) :: L))) := hK.reo
       refine cl call193 rfl (insertL_c (x := (at', to, un)) hK (.inl ho) rfl (fun _ _ => rfl) hbs.1 om) ?_
       rintro v78 w ⟨A2, ho2, hK⟩
       have hle : (ls.take i ++ (at', to, un) :: ls.drop i).length = ls.length + 1 := by have := hbs.1; simp only [List.length_append, List.length_cons, List.length_take, List.length_drop]; omega
       have ho3 : OS 3 101 v78 (ls.take i ++ (at', to, un) :: ls.drop i).length ((ls.take i ++ (at', to, un) :: ls.drop i).flatMap lc) A2 := by rw [hle]; exact ho2
       refine vl asg <| vl asg <| nl <| thn <| rt <| p2r (a := _) (b := _) rfl rfl <| ?_
       have hpub := K.pubEF lc_len hK ho3 (VLe.refl _)
       clear ho ho2 ho3 hK
       obtain ⟨G1, hG1, hx, hxn, hxb, hK⟩ := hpub
       exact ⟨G1, hG1, .inr (.inr ⟨_, _, h1', hok, (handL_4 hc' hd' (by omega)).trans (congrArg some (hbs.at _)), rfl, hx, hxn⟩), hK.drop1⟩
set_option maxHeartbeats 1000000 in
theorem seizeF_c (hK : K e w G L) (hE : ErrS 228 0 1 G a0 a1) (hv : LeaS G v ls) :
  Ret prog 159 #[v, .int .i64 key, .int .i64 to, .int .i64 now, .int .i64 un] w (fun r w' => ∃ G', VLe G G' ∧ HdF 101 228 a0 a1 lc G G' ls (Pt key ∧ Pt to ∧ Tm now ∧ Tm un) (takeL ls key to now un) r ∧ K e w' G' L) := by
 refine enter2 (args := [v, .int .i64 key, .int .i64 to, .int .i64 now, .int .i64 un]) func159 rfl rfl rfl rfl ?_
 refine sq <| rg <| ?_
 refine vl asg <| vl asg <| nl <| thn <| sq <| sq <| rg <| vl mv <| ?_
 refine cl call84 rfl (implLeasesValid_c hK hv) ?_
 rintro _ w ⟨rfl, hK⟩
 refine vl (ntB rfl) <| vl (mB rfl) <| ?_
 refine spl (t := 17) rfl (fun h1 => ?_) fun h1 => ?_
 ·have h1' := not_dec (Eq.mp (Bool.not_eq_true' _) h1)
  refine gn rfl <| gn rfl <| gn rfl <| gn rfl <| gn rfl <| vl (pk rfl) <| vl (mB rfl) <| gn rfl <| gn rfl <| gn rfl <| gn rfl <| gn rfl <| vl (pk rfl) <| nl <| thn <| ?_
  refine cdt rfl ?_
  refine sq <| ?_
  refine rgq (fun w => K _ w _ _) Ty.mixed kr (hK.drawn _) ?_
  refine qldV Ty.o160 rfl hE.1 <| qv (fun w hK => asg) <| qv (fun w hK => asg) <| qn <| ?_
  intro w hK
  refine thn <| rt <| thr <| p2r (a := _) (b := _) rfl rfl <| ?_
  exact ⟨_, VLe.refl _, .inl ⟨fun h => h1' h.1, rfl⟩, hK⟩
 ·have h1' := of_dec (Eq.mp (Bool.not_eq_false' _) h1)
  have hlen := h1'.1.2
  have hlt := lAt_lt (ls := ls) (k := key) (by have := h1'.1; omega)
  have hat := lsAt_eq hlt
  refine gy rfl <| vl (mI rfl) <| gy rfl <| vl (mI rfl) <| gy rfl <| ?_
  refine bsN [.tmp 18, .tmp 19] hK underlying22 Ty.i3 rfl rfl rfl rfl rfl rfl rfl rfl ?_
  intro b20 w hK
  refine gy rfl <| ?_
  refine cl call136 rfl (positions_o (xs := [key, to]) hK rfl) ?_
  rintro _ w ⟨rfl, hK⟩
  refine gy rfl <| vl (ntB rfl) <| vl (pk rfl) <| vl (mB rfl) <| ?_
  refine spl (t := 24) rfl (fun h2 => ?_) fun h2 => ?_
  ·have h2' := not_dec (Eq.mp (Bool.not_eq_true' _) h2)
   refine gn rfl <| gn rfl <| gn rfl <| gn rfl <| gn rfl <| vl (pk rfl) <| nl <| thn <| ?_
   refine cdt rfl ?_
   refine sq <| ?_
   refine rgq (fun w => K _ w _ _) Ty.mixed kr (hK.drawn _) ?_
   refine qldV Ty.o160 rfl hE.1 <| qv (fun w hK => asg) <| qv (fun w hK => asg) <| qn <| ?_
   intro w hK
   refine thn <| rt <| thr <| p2r (a := _) (b := _) rfl rfl <| ?_
   exact ⟨_, VLe.refl _, .inl ⟨fun h => h2' (mk2 ⟨h.2.1, h.2.2.1⟩), rfl⟩, hK.drop1⟩
  ·have h2a := of_dec (Eq.mp (Bool.not_eq_false' _) h2)
   refine gy rfl <| vl (mI rfl) <| gy rfl <| vl (mI rfl) <| gy rfl <| ?_
   refine bsN [.tmp 25, .tmp 26] hK underlying22 Ty.i3 rfl rfl rfl rfl rfl rfl rfl rfl ?_
   intro b27 w hK
   refine gy rfl <| ?_
   refine cl call82 rfl (times_o (xs := [now, un]) hK rfl) ?_
   rintro _ w ⟨rfl, hK⟩
   refine gy rfl <| vl (ntB rfl) <| vl (pk rfl) <| nl <| thn <| ?_
   refine cdB rfl (fun h3 => ?_) fun h3 => ?_
   ·have h3' := not_dec (Eq.mp (Bool.not_eq_true' _) h3)
    refine sq <| ?_
    refine rgq (fun w => K _ w _ _) Ty.mixed kr (hK.drawn _) ?_
    refine qldV Ty.o160 rfl hE.1 <| qv (fun w hK => asg) <| qv (fun w hK => asg) <| qn <| ?_
    intro w hK
    refine thn <| rt <| thr <| p2r (a := _) (b := _) rfl rfl <| ?_
    exact ⟨_, VLe.refl _, .inl ⟨fun h => h3' (mk2 ⟨h.2.2.2.1, h.2.2.2.2⟩), rfl⟩, hK.drop1.drop1⟩
   ·have h3a := of_dec (Eq.mp (Bool.not_eq_false' _) h3)
    have hok : Pt key ∧ Pt to ∧ Tm now ∧ Tm un := ⟨h2a key (by simp), h2a to (by simp), h3a now (by simp), h3a un (by simp)⟩
    replace hK := hK.drop1.drop1
    refine sk <| thn <| sq <| rg <| ?_
    refine vl mv <| vl (mI rfl) <| ?_
    refine cl call166 rfl (leaseAt_c hK hv) ?_
    rintro _ w ⟨rfl, hK⟩
    refine vl (aI rfl) <| nl <| thn <| sq <| sq <| rg <| vl mv <| vl (mI rfl) <| vl (ixm (m := lAt ls key) underlying26 Ty.s101 rfl hv.1 rfl om om) <| vl (fe underlying101 rfl Ty.z3 rfl hv.1 om) <| vl (ldV hK Ty.o3 rfl (hv.cell om 2 rfl)) <| vl (mI rfl) <| vl (ge rfl rfl) <| nl <| thn <| ?_
    refine cdP rfl (fun hc => ?_) fun hc => ?_
    ·have hc' : now ≤ (lsAt ls key).2.2 := by rw [← hat]; exact hc
     refine sq <| ?_
     refine rgq (fun w => K _ w _ _) Ty.mixed kr (hK.drawn _) ?_
     refine qldV Ty.o160 rfl hE.2.1 <| qv (fun w hK => asg) <| qv (fun w hK => asg) <| qn <| ?_
     intro w hK
     refine thn <| rt <| thr <| p2r (a := _) (b := _) rfl rfl <| ?_
     exact ⟨_, VLe.refl _, .inr (.inl ⟨h1', hok, takeL_1 hc', rfl⟩), hK⟩
    ·have hc' : ¬ now ≤ (lsAt ls key).2.2 := by rw [← hat]; exact hc
     refine sk <| thn <| sq <| rg <| ?_
     refine vl mv <| ?_
     refine cl call92 rfl (cloneL_c hK hv om) ?_
     rintro v13 w ⟨A1, ho, hK⟩
     refine vl asg <| nl <| thn <| sq <| rg <| vl mv <| vl (mI rfl) <| vl mv <| vl (mI rfl) <| vl (mI rfl) <| vl (mI rfl) <| vl (ixn underlying26 Ty.s101 rfl ho.slw rfl hlt) <| vl (fe underlying101 rfl Ty.z3 rfl ho.slw om) <| ?_
     refine osSetC (i := lAt ls key * 3 + 1) (u := .int .i64 to) hK ho om Ty.i3 rfl rfl rfl rfl fun A' w ho hK => ?_
     rw [flat_set (c := lc) (sz := 3) (fun _ => rfl) ls (lAt ls key) 1 ls[lAt ls key] ((lsAt ls key).1, to, (lsAt ls key).2.2) (.int .i64 to) (List.getElem?_eq_getElem hlt) (by omega) (by rw [hat]; rfl)] at ho
     refine vl (ixn underlying26 Ty.s101 rfl ho.slw rfl hlt) <| vl (fe underlying101 rfl Ty.z3 rfl ho.slw om) <| ?_
     refine osSetC (i := lAt ls key * 3 + 2) (u := .int .i64 un) hK ho om Ty.i3 rfl rfl rfl rfl fun A' w ho hK => ?_
     rw [flat_set (c := lc) (sz := 3) (fun _ => rfl) _ (lAt ls key) 2 ((lsAt ls key).1, to, (lsAt ls key).2.2) ((lsAt ls key).1, to, un) (.int .i64 un) (by rw [List.getElem?_set_self hlt]) (by omega) rfl, List.set_set] at ho
     have ho' : OS 3 101 v13 (ls.set (lAt ls key) ((lsAt ls key).1, to, un)).length ((ls.set (lAt ls key) ((lsAt ls key).1, to, un)).flatMap lc) A' := by rw [List.length_set]; exact ho
     refine nl <| thn <| sq <| rg <| vl mv <| vl asg <| vl asg <| nl <| thn <| rt <| p2r (a := _) (b := _) rfl rfl <| ?_
     obtain ⟨G1, hG1, hx, hxn, hxb, hK⟩ := K.pubEF lc_len hK ho' (VLe.refl _)
     exact ⟨G1, hG1, .inr (.inr ⟨_, _, h1', hok, takeL_2 hc', rfl, hx, hxn⟩), hK⟩
theorem grantedF_c (hG0 : VLe G0 G) (hK : K e w G L) (hE : ErrS 228 0 1 G a0 a1) (hv : LeaS G v ls) (hl : ls.length ≤ 1000000) {v2 er : Value} (hr : HdF 101 228 a0 a1 lc G0 G ls ok o (.tuple #[v2, er])) :
  Ret prog 158 #[v, v2, er] w (fun r w' => ∃ G', VLe G G' ∧ LsF 101 lc G0 G' r (tkL ls ok o) ∧ K e w' G' L) := by
 rcases hr with ⟨h1, h2⟩ | ⟨h1, h2, h3, h4⟩ | ⟨v3, x, h1, h2, h3, h4, h5, h6⟩
 ·obtain ⟨rfl, rfl⟩ := tup2 h2
  exact (granted0_c hK hE).mono fun _ _ ⟨hr, hK⟩ => ⟨G, VLe.refl _, hr ▸ LsF.mk (tkL_no h1) SlR.lit0 New.nil0, hK⟩
 ·obtain ⟨rfl, rfl⟩ := tup2 h4
  exact (granted1F_c hG0 hK hE hv hl).mono fun _ _ ⟨G', v', hG, hr, hv', hn', hK⟩ => ⟨G', hG, hr ▸ LsF.mk (tkL_none ⟨h1, h2⟩ h3) hv' hn', hK⟩
 ·obtain ⟨rfl, rfl⟩ := tup2 h4
  exact (granted2_c hK hE).mono fun _ _ ⟨hr, hK⟩ => ⟨G, VLe.refl _, hr ▸ LsF.mk (tkL_some ⟨h1, h2⟩ h3) h5 h6, hK⟩
theorem LeaseHandF_c (hK : K e w G L) (hE : ErrS 228 0 1 G a0 a1) (hv : LeaS G v ls) (hl : ls.length ≤ 1000000) :
  Ret prog 120 #[v, .int .i64 fr, .int .i64 at', .int .i64 to, .int .i64 un] w (fun r w' => ∃ G', VLe G G' ∧ LsF 101 lc G G' r (tkL ls (Pt fr ∧ Pt at' ∧ Pt to ∧ Tm un) (handL ls fr at' to un)) ∧ K e w' G' L) := by
 refine enter2 (args := [v, .int .i64 fr, .int .i64 at', .int .i64 to, .int .i64 un]) func120 rfl rfl rfl rfl ?_
 refine sq <| rg <| ?_
 refine vl asg <| vl (aB rfl) <| nl <| thn <| sq <| rg <| vl mv <| vl (mI rfl) <| vl (mI rfl) <| vl (mI rfl) <| vl (mI rfl) <| ?_
 refine cl call157 rfl (handF_c hK hE hv) ?_
 rintro r w ⟨G1, hG1, hr, hK⟩
 obtain ⟨v2, er, rfl⟩ := hr.tup
 refine vl mv <| vl (ext rfl rfl) <| vl (ext rfl rfl) <| vl asg <| vl asg <| nl <| thn <| sq <| rg <| vl mv <| vl mv <| vl mv <| ?_
 refine cl call158 rfl (grantedF_c hG1 hK (hE.mono hG1) (hv.mono hG1) hl hr) ?_
 rintro r w ⟨G2, hG2, hR, hK⟩
 obtain ⟨v3, rfl, hv3, hn3⟩ := hR
 refine vl (ext rfl rfl) <| vl (ext rfl rfl) <| vl asg <| vl (aB rfl) <| nl <| thn <| rt <| p2r (a := _) (b := .bool _) rfl rfl <| ?_
 exact ⟨G2, hG1.trans hG2, ⟨v3, rfl, hv3, hn3⟩, hK⟩
theorem LeaseTakeF_c (hK : K e w G L) (hE : ErrS 228 0 1 G a0 a1) (hv : LeaS G v ls) (hl : ls.length ≤ 1000000) :
  Ret prog 121 #[v, .int .i64 key, .int .i64 to, .int .i64 now, .int .i64 un] w (fun r w' => ∃ G', VLe G G' ∧ LsF 101 lc G G' r (tkL ls (Pt key ∧ Pt to ∧ Tm now ∧ Tm un) (takeL ls key to now un)) ∧ K e w' G' L) := by
 refine enter2 (args := [v, .int .i64 key, .int .i64 to, .int .i64 now, .int .i64 un]) func121 rfl rfl rfl rfl ?_
 refine sq <| rg <| ?_
 refine vl asg <| vl (aB rfl) <| nl <| thn <| sq <| rg <| vl mv <| vl (mI rfl) <| vl (mI rfl) <| vl (mI rfl) <| vl (mI rfl) <| ?_
 refine cl call159 rfl (seizeF_c hK hE hv) ?_
 rintro r w ⟨G1, hG1, hr, hK⟩
 obtain ⟨v2, er, rfl⟩ := hr.tup
 refine vl mv <| vl (ext rfl rfl) <| vl (ext rfl rfl) <| vl asg <| vl asg <| nl <| thn <| sq <| rg <| vl mv <| vl mv <| vl mv <| ?_
 refine cl call158 rfl (grantedF_c hG1 hK (hE.mono hG1) (hv.mono hG1) hl hr) ?_
 rintro r w ⟨G2, hG2, hR, hK⟩
 obtain ⟨v3, rfl, hv3, hn3⟩ := hR
 refine vl (ext rfl rfl) <| vl (ext rfl rfl) <| vl asg <| vl (aB rfl) <| nl <| thn <| rt <| p2r (a := _) (b := .bool _) rfl rfl <| ?_
 exact ⟨G2, hG1.trans hG2, ⟨v3, rfl, hv3, hn3⟩, hK⟩
end
end Go.Proofs.YtmgggljicpmndaaGreatDoor
