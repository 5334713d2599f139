/- Contracts of the specification's steps of a ring: failing, joining. Contracts of the program's steps of a ring. Contracts of the program's steps of a ring: leaving, following, telling. Conditions: those that each row states. -/
import Derived.Test.YtmgggljicpmndaaGreatDoorRs2
import Derived.Test.YtmgggljicpmndaaGreatDoorRgU
namespace Go.Proofs.YtmgggljicpmndaaGreatDoor
open Go Go.Ro Tryz
section
variable {e w : World} {G : View} {L : Own} {v u : Value} {xs ys ks : List Int} {ls : List Ls} {rs : List Rn} {a b k id other : Int} {i j : Nat}
theorem specRingFail_c (hK : K e w G L) (hv : RngS G v rs) : Ret prog 108 #[v, .int .i64 id] w (fun r w' => ∃ G', VLe G G' ∧ RgA G' r (tk (rgl rs) (Pt id) (failR (rgl rs) id)) ∧ K e w' G' L) := by
 have hs := hv.sl
 refine enter2 (args := [v, .int .i64 id]) func108 rfl rfl rfl rfl ?_
 refine sq <| rg <| ?_
 refine vl asg <| vl (aB rfl) <| nl <| thn <| sq <| sq <| rg <| vl mv <| ?_
 refine cl call72 rfl (specRingSafe_c hK hv) ?_
 rintro _ w ⟨rfl, hK⟩
 refine vl (ntB rfl) <| vl (mB rfl) <| ?_
 refine spl (t := 11) rfl (fun h1 => ?_) fun h1 => ?_
 ·have h1' := not_dec (Eq.mp (Bool.not_eq_true' _) h1)
  refine gn rfl <| gn rfl <| gn rfl <| vl (pk rfl) <| nl <| thn <| ?_
  refine cdt rfl ?_
  refine sq <| rg <| ?_
  refine bs0 hK underlying25 Ty.i98 ?_
  intro b16 w hK
  refine vl asg <| vl (aB rfl) <| nl <| thn <| rt <| thr <| p2r (a := _) (b := .bool _) rfl rfl <| ?_
  rw [tk_no fun h => h1' h.1]
  exact ⟨_, VLe.refl _, ⟨_, [], rfl, RngS.lit, rfl⟩, hK.drop1⟩
 ·have hsf := of_dec (Eq.mp (Bool.not_eq_false' _) h1)
  have hok := hsf.1
  have hlen := len_of hok
  refine gy rfl <| vl (mI rfl) <| gy rfl <| ?_
  refine cl call99 rfl (l1Point_c (C := fun w => K _ w _ _) hK) ?_
  rintro _ w ⟨rfl, hK⟩
  refine gy rfl <| vl (nt rfl) <| vl (pk rfl) <| nl <| thn <| ?_
  refine cdP rfl (fun h2 => ?_) fun h2 => ?_
  ·refine sq <| rg <| ?_
   refine bs0 hK underlying25 Ty.i98 ?_
   intro b16 w hK
   refine vl asg <| vl (aB rfl) <| nl <| thn <| rt <| thr <| p2r (a := _) (b := .bool _) rfl rfl <| ?_
   rw [tk_no fun h => h2 h.2]
   exact ⟨_, VLe.refl _, ⟨_, [], rfl, RngS.lit, rfl⟩, hK.drop1⟩
  ·have hp : Pt id := Decidable.not_not.1 h2
   refine sk <| thn <| sq <| rg <| ?_
   refine vl mv <| vl (mI rfl) <| ?_
   refine cl call98 rfl (l3Find_c hK hv) ?_
   rintro _ w ⟨rfl, hK⟩
   refine vl (aI rfl) <| nl <| thn <| sq <| sq <| rg <| vl (mI rfl) <| vl (lt rfl rfl) <| nl <| thn <| ?_
   refine cdP rfl (fun hc => ?_) fun hc => ?_
   ·have hid : id ∉ ids (rgl rs) := fun h => by have := fI_ge.2 h; omega
    refine sq <| rg <| ?_
    refine vl mv <| ?_
    refine cl call61 rfl (l3Copy_v hK hv hok) ?_
    rintro v1 w ⟨G1, rs1, hG, hr1, hv1, hK⟩
    refine vl asg <| vl (aB rfl) <| nl <| thn <| rt <| thr <| p2r (a := _) (b := .bool _) rfl rfl <| ?_
    refine ⟨G1, hG, ?_, hK⟩
    rw [tk_ot ⟨hsf, hp⟩, failR_no fun h => hid h.1]
    exact RgA.mk hv1 hr1
   ·have hid : id ∈ ids (rgl rs) := fI_ge.1 (by omega)
    obtain ⟨i, hn⟩ := NdA.of hv hok hid
    have hi := hn.lt
    refine sk <| thn <| sq <| ?_
    rw [fI_in hid, hn.hfx]
    have hone1 : ∀ k ∈ (rs.take i).drop 0, (rc k).all Ro.one = true := fun k hk => hv.one k (List.mem_of_mem_take (List.mem_of_mem_drop hk))
    have hone2 : ∀ k ∈ (rs.take rs.length).drop (i + 1), (rc k).all Ro.one = true := fun k hk => hv.one k (List.mem_of_mem_take (List.mem_of_mem_drop hk))
    refine rgx (fun w => K _ w _ _) [U,U,U,U,U,U,U,U,U,U,U] 11 Ty.mixed rfl rfl (hK.drawn _) ?_
    intro w hK
    have hS := hK
    refine xt (i := 1) rfl kr rfl rfl (fun w hK => mv) hS <| xt (i := 2) rfl kr rfl rfl (fun w hK => (mI rfl)) hS <| xt (i := 3) rfl kr rfl rfl (fun w hK => (slHi (h := i) underlying25 Ty.s98 rfl hs.1 rfl om)) hS <| xt (i := 5) rfl kr rfl rfl (fun w hK => mv) hS <| xt (i := 6) rfl kr rfl rfl (fun w hK => (mI rfl)) hS <| xt (i := 7) rfl kr rfl rfl (fun w hK => (ad rfl rfl)) hS <| xt (i := 8) rfl kr rfl rfl (fun w hK => (slLo (l := i + 1) underlying25 Ty.s98 rfl hs.1 rfl om)) hS <| ?_
    refine xe (i := 0) kr rfl rfl ?_
    refine bs0 hK underlying25 Ty.i98 ?_
    intro b24 w hK
    replace hS := K.drop1 hK
    refine xn (fun w => K _ w _ _) hS (fun _ h => h) ?_
    refine xe (i := 4) kr rfl rfl ?_
    refine apR (A := [(b24, row [] 98)]) (xs := []) hK underlying25 Ty.i98 rfl rfl rfl OS.none rfl (hs.slc (Nat.zero_le _) om) hone1 (by simp; omega) fun v1 A1 w ho1 hK => ?_
    replace hS := (K.dropL hK)
    refine xn (fun w => K _ w _ _) hS (fun _ h => h) ?_
    refine xe (i := 9) kr rfl rfl ?_
    refine apR hK underlying25 Ty.i98 rfl rfl rfl ho1 rfl (hs.slc om (Nat.le_refl _)) hone2 (by simp; omega) fun v2 A2 w ho2 hK => ?_
    have e1 : ([] ++ (rs.take i).drop 0 ++ (rs.take rs.length).drop (i + 1)) = rs.take i ++ rs.drop (i + 1) := by
     rw [List.drop_zero, List.nil_append, List.take_length]
    rw [e1] at ho2
    obtain ⟨G1, hG1, hv2, hK⟩ := K.pubR (fun x hx => hv.aft x (by
     rcases List.mem_append.1 hx with h | h
     ·exact List.mem_of_mem_take h
     ·exact List.mem_of_mem_drop h)) ho2 hK
    replace hS := (K.vle hK hG1)
    refine xn (fun w => K _ w _ _) hS (fun _ h => h) ?_
    refine xt (i := 10) rfl kr rfl rfl (fun w hK => asg) hS <| xd kr <| thn <| sq <| sq <| rg <| vl mv <| ?_
    have hfl := hn.filter hok
    have hok2 : RgOk (rgl (rs.take i ++ rs.drop (i + 1))) := by rw [← hfl]; exact hok.sub List.filter_sublist
    refine cl call129 rfl (l3Safe_c hK hv2 (fun x hx => (hok2.2.1 _ (List.mem_map.2 ⟨x, hx, rfl⟩)).2.2.1) (by have := len_of hok2; omega)) ?_
    rintro _ w ⟨rfl, hK⟩
    refine vl (ntB rfl) <| nl <| thn <| ?_
    refine cdB rfl (fun hq => ?_) fun hq => ?_
    ·have hq' := not_dec (Eq.mp (Bool.not_eq_true' _) hq)
     refine sq <| rg <| ?_
     refine vl mv <| ?_
     refine cl call61 rfl (l3Copy_v hK (hv.mono hG1) hok) ?_
     rintro v3 w ⟨G2, rs1, hG, hr1, hv1, hK⟩
     refine vl asg <| vl (aB rfl) <| nl <| thn <| rt <| thr <| p2r (a := _) (b := .bool _) rfl rfl <| ?_
     refine ⟨G2, hG1.trans hG, ?_, hK⟩
     rw [tk_ot ⟨hsf, hp⟩, failR_no fun h => hq' ?_]
     ·exact RgA.mk hv1 hr1
     ·have := h.2; rw [hfl] at this; exact (rgSafe_iff.1 this).2
    ·have hq' := of_dec (Eq.mp (Bool.not_eq_false' _) hq)
     refine sk <| thn <| sq <| rg <| ?_
     refine vl mv <| ?_
     refine cl call61 rfl (l3Copy_v hK hv2 hok2) ?_
     rintro v3 w ⟨G2, rs1, hG, hr1, hv1, hK⟩
     refine vl asg <| vl (aB rfl) <| nl <| thn <| rt <| p2r (a := _) (b := .bool _) rfl rfl <| ?_
     refine ⟨G2, hG1.trans hG, ?_, hK⟩
     rw [tk_ot ⟨hsf, hp⟩, failR_yes ⟨hid, by rw [hfl]; exact rgSafe_iff.2 ⟨hok2, hq'⟩⟩, hfl]
     exact RgA.mk hv1 hr1
set_option maxHeartbeats 1000000 in
theorem specRingJoin_c (hK : K e w G L) (hv : RngS G v rs) : Ret prog 107 #[v, .int .i64 id, .int .i64 other] w (fun r w' => ∃ G', VLe G G' ∧ RgA G' r (tk (rgl rs) (Pt id ∧ Pt other) (joinR (rgl rs) id other)) ∧ K e w' G' L) := by
 have hs := hv.sl
 refine enter2 (args := [v, .int .i64 id, .int .i64 other]) func107 rfl rfl rfl rfl ?_
 refine sq <| rg <| ?_
 refine vl asg <| vl (aB rfl) <| nl <| thn <| sq <| sq <| rg <| vl mv <| ?_
 refine cl call72 rfl (specRingSafe_c hK hv) ?_
 rintro _ w ⟨rfl, hK⟩
 refine vl (ntB rfl) <| vl (mB rfl) <| ?_
 refine spl (t := 15) rfl (fun h1 => ?_) fun h1 => ?_
 ·have h1' := not_dec (Eq.mp (Bool.not_eq_true' _) h1)
  refine gn rfl <| gn rfl <| gn rfl <| vl (pk rfl) <| vl (mB rfl) <| gn rfl <| gn rfl <| gn rfl <| vl (pk rfl) <| nl <| thn <| ?_
  refine cdt rfl ?_
  refine sq <| rg <| ?_
  refine bs0 hK underlying25 Ty.i98 ?_
  intro b25 w hK
  refine vl asg <| vl (aB rfl) <| nl <| thn <| rt <| thr <| p2r (a := _) (b := .bool _) rfl rfl <| ?_
  rw [tk_no fun h => h1' h.1]
  exact ⟨_, VLe.refl _, ⟨_, [], rfl, RngS.lit, rfl⟩, hK.drop1⟩
 ·have hsf := of_dec (Eq.mp (Bool.not_eq_false' _) h1)
  have hok := hsf.1
  have hlen := len_of hok
  refine gy rfl <| vl (mI rfl) <| gy rfl <| ?_
  refine cl call99 rfl (l1Point_c (C := fun w => K _ w _ _) hK) ?_
  rintro _ w ⟨rfl, hK⟩
  refine gy rfl <| vl (nt rfl) <| vl (pk rfl) <| vl (mB rfl) <| ?_
  refine splP (t := 20) rfl (fun h2 => ?_) fun h2 => ?_
  ·refine gn rfl <| gn rfl <| gn rfl <| vl (pk rfl) <| nl <| thn <| ?_
   refine cdt rfl ?_
   refine sq <| rg <| ?_
   refine bs0 hK underlying25 Ty.i98 ?_
   intro b25 w hK
   refine vl asg <| vl (aB rfl) <| nl <| thn <| rt <| thr <| p2r (a := _) (b := .bool _) rfl rfl <| ?_
   rw [tk_no fun h => h2 h.2.1]
   exact ⟨_, VLe.refl _, ⟨_, [], rfl, RngS.lit, rfl⟩, hK.drop1⟩
  ·refine gy rfl <| vl (mI rfl) <| gy rfl <| ?_
   refine cl call99 rfl (l1Point_c (C := fun w => K _ w _ _) hK) ?_
   rintro _ w ⟨rfl, hK⟩
   refine gy rfl <| vl (nt rfl) <| vl (pk rfl) <| nl <| thn <| ?_
   refine cdP rfl (fun h3 => ?_) fun h3 => ?_
   ·refine sq <| rg <| ?_
    refine bs0 hK underlying25 Ty.i98 ?_
    intro b25 w hK
    refine vl asg <| vl (aB rfl) <| nl <| thn <| rt <| thr <| p2r (a := _) (b := .bool _) rfl rfl <| ?_
    rw [tk_no fun h => h3 h.2.2]
    exact ⟨_, VLe.refl _, ⟨_, [], rfl, RngS.lit, rfl⟩, hK.drop1⟩
   ·have hp : Pt id ∧ Pt other := ⟨Decidable.not_not.1 h2, Decidable.not_not.1 h3⟩
    refine sk <| thn <| sq <| rg <| ?_
    refine vl mv <| vl (mI rfl) <| ?_
    refine cl call98 rfl (l3Find_c hK hv) ?_
    rintro _ w ⟨rfl, hK⟩
    refine vl (aI rfl) <| nl <| thn <| sq <| sq <| ?_
    refine ct (σ := Bool) (fun s => [(0, v), (1, .int .i64 id), (2, .int .i64 other), (8, .int .i64 (fI (rgl rs) other)), (54, .bool s)]) (fun s w => (s = true ↔ ¬ (id ∉ ids (rgl rs) ∧ other ∈ ids (rgl rs) ∧ (rgl rs).length ≠ 10 ∧ btw other id (a0 (ndAt (rgl rs) other)) = true)) ∧ K e w G L) ?_ ?_
    ·refine rg <| ?_
     refine vl (mI rfl) <| vl (lt rfl rfl) <| vl (mB rfl) <| ?_
     refine splP (t := 31) rfl (fun h4 => ?_) fun h4 => ?_
     ·have h4' : other ∉ ids (rgl rs) := fun h => by have := fI_ge.2 h; omega
      refine gn rfl <| gn rfl <| gn rfl <| gn rfl <| vl (pk rfl) <| vl (mB rfl) <| gn rfl <| gn rfl <| gn rfl <| vl (pk rfl) <| vl (mB rfl) <| gn rfl <| gn rfl <| gn rfl <| gn rfl <| gn rfl <| gn rfl <| gn rfl <| gn rfl <| gn rfl <| gn rfl <| gn rfl <| vl (pk rfl) <| nl <| ctn <| ?_
      exact ⟨true, ⟨rfl, rfl, rfl, rfl, rfl, trivial⟩, by simp [h4'], hK⟩
     ·have h4' : other ∈ ids (rgl rs) := fI_ge.1 (by omega)
      obtain ⟨i, hn⟩ := NdA.of hv hok h4'
      have hi := hn.lt
      have hx := hn.aft
      have hal := hn.len
      have h0 := hn.ha0
      rw [fI_in h4', hn.hfx]
      refine gy rfl <| vl mv <| gy rfl <| vl (mI rfl) <| gy rfl <| ?_
      refine cl call98 rfl (l3Find_c hK hv) ?_
      rintro _ w ⟨rfl, hK⟩
      refine gy rfl <| vl (ge rfl rfl) <| vl (pk rfl) <| vl (mB rfl) <| ?_
      refine splP (t := 37) rfl (fun h5 => ?_) fun h5 => ?_
      ·have h5' : id ∈ ids (rgl rs) := fI_ge.1 h5
       refine gn rfl <| gn rfl <| gn rfl <| vl (pk rfl) <| vl (mB rfl) <| gn rfl <| gn rfl <| gn rfl <| gn rfl <| gn rfl <| gn rfl <| gn rfl <| gn rfl <| gn rfl <| gn rfl <| gn rfl <| vl (pk rfl) <| nl <| ctn <| ?_
       exact ⟨true, ⟨rfl, rfl, rfl, rfl, rfl, trivial⟩, by simp [h5'], hK⟩
      ·have h5' : id ∉ ids (rgl rs) := fun h => h5 (fI_ge.2 h)
       refine gy rfl <| vl mv <| gy rfl <| vl (ln underlying25 rfl hs.len) <| gy rfl <| vl (ge rfl rfl) <| vl (pk rfl) <| vl (mB rfl) <| ?_
       refine splP (t := 42) rfl (fun h6 => ?_) fun h6 => ?_
       ·have h6' : (rgl rs).length = 10 := by rw [rg_len]; omega
        refine gn rfl <| gn rfl <| gn rfl <| gn rfl <| gn rfl <| gn rfl <| gn rfl <| gn rfl <| gn rfl <| gn rfl <| gn rfl <| vl (pk rfl) <| nl <| ctn <| ?_
        exact ⟨true, ⟨rfl, rfl, rfl, rfl, rfl, trivial⟩, by simp [h6'], hK⟩
       ·have h6' : ¬ (rgl rs).length = 10 := by rw [rg_len]; omega
        refine gy rfl <| vl (mI rfl) <| gy rfl <| vl (mI rfl) <| gy rfl <| vl mv <| gy rfl <| vl (mI rfl) <| gy rfl <| vl (ixm (m := i) underlying25 Ty.s98 rfl hs.1 rfl om om) <| gy rfl <| vl (fe underlying98 rfl Ty.z22 rfl hs.1 om) <| gy rfl <| vl (ldV hK Ty.o22 rfl (hs.cell om 2 rfl)) <| gy rfl <| vl (ixn1 underlying22 Ty.s3 rfl hx.1 rfl om) <| gy rfl <| vl (ldV hK Ty.o3 rfl (hx.at om)) <| gy rfl <| ?_
        refine cl call143 rfl (l1Between_c (C := fun w => K e w G L) hK) ?_
        rintro _ w ⟨rfl, hK⟩
        refine gy rfl <| vl (ntB rfl) <| vl (pk rfl) <| nl <| ctn <| ?_
        exact ⟨_, ⟨rfl, rfl, rfl, rfl, rfl, trivial⟩, by rw [h0]; simp [h4', h5', h6'], hK⟩
    ·rintro s g w ⟨hsb, hK⟩
     refine thn <| ?_
     refine cdB rfl (fun hq => ?_) fun hq => ?_
     ·refine sq <| rg <| ?_
      refine vl mv <| ?_
      refine cl call61 rfl (l3Copy_v hK hv hok) ?_
      rintro v1 w ⟨G1, rs1, hG, hr1, hv1, hK⟩
      refine vl asg <| vl (aB rfl) <| nl <| thn <| rt <| thr <| p2r (a := _) (b := .bool _) rfl rfl <| ?_
      refine ⟨G1, hG, ?_, hK⟩
      rw [tk_ot ⟨hsf, hp⟩, joinR_no (hsb.1 hq)]
      exact RgA.mk hv1 hr1
     ·have hq' := Classical.not_not.1 fun h => by rw [hsb.2 h] at hq; cases hq
      obtain ⟨i, hn⟩ := NdA.of hv hok hq'.2.1
      have hi := hn.lt
      have hx := hn.aft
      have hlen2 := rg_len rs
      refine sk <| thn <| sq <| rg <| ?_
      refine bs0 hK underlying25 Ty.i98 ?_
      intro b57 w hK
      refine vl asg <| nl <| thn <| sq <| sq <| rg <| vl (aI rfl) <| nl <| thn <| bk <| ?_
      rw [fI_in hq'.2.1, hn.hfx]
      refine lp (σ := Nat × Value × Own) (fun s => [(0, v), (1, .int .i64 id), (2, .int .i64 other), (8, .int .i64 (i : Int)), (9, s.2.1), (10, .int .i64 (s.1 : Int))]) (fun s w => s.1 ≤ rs.length ∧ (∀ x ∈ rs.take s.1, x.1 < id) ∧ OS 3 98 s.2.1 (rs.take s.1).length ((rs.take s.1).flatMap rc) s.2.2 ∧ K e w G (s.2.2 ++ L)) (fun s => rs.length - s.1) (0, .slice (some ⟨b57, 0, none⟩) 0 0, [(b57, row [] 98)]) ⟨rfl, rfl, rfl, rfl, rfl, rfl, trivial⟩ ⟨Nat.zero_le _, by simp, OS.none, hK⟩ ?_
      rintro ⟨m, u, A⟩ g w ⟨hm, hlt, ho, hK⟩
      simp only at hm hlt ho hK
      refine sq <| sq <| rg <| ?_
      refine vl (mI rfl) <| vl mv <| vl (ln underlying25 rfl hs.len) <| vl (lt rfl rfl) <| vl (mB rfl) <| ?_
      refine splP (t := 62) rfl (fun h7 => ?_) fun h7 => ?_
      ·have hm' : m < rs.length := by omega
       refine gy rfl <| vl mv <| gy rfl <| vl (mI rfl) <| gy rfl <| vl (ixn underlying25 Ty.s98 rfl hs.1 rfl om) <| gy rfl <| vl (fe underlying98 rfl Ty.z3 rfl hs.1 om) <| gy rfl <| vl (ldV hK Ty.o3 rfl (hs.cell om 0 rfl)) <| gy rfl <| vl (mI rfl) <| gy rfl <| vl (lt rfl rfl) <| vl (pk rfl) <| nl <| thn <| ?_
       refine cdP rfl (fun h8 => ?_) fun h8 => ?_
       ·refine sk <| thn <| sq <| bk <| rg <| ?_
        refine vl mv <| vl mv <| vl (mI rfl) <| vl (ixn underlying25 Ty.s98 rfl hs.1 rfl om) <| vl (lsF hK Ty.a98 Ty.s98 rfl hs om) <| ?_
        refine bsS1 hK underlying25 Ty.i98 rfl rfl rfl rfl rfl rfl ?_
        intro b78 w hK
        refine apR1 (xs := rs.take m) (k := rs[m]) (hv.one _ (List.getElem_mem hm')) hK underlying25 Ty.i98 rfl rfl rfl ho rfl (by simp; omega) fun v1 A1 w ho1 hK => ?_
        refine vl asg <| nl <| bkn <| thn <| rg <| vl (mI rfl) <| vl (ad rfl rfl) <| vl (aI rfl) <| nl <| thn <| ?_
        exact ⟨(m + 1, v1, A1), ⟨rfl, rfl, rfl, rfl, rfl, rfl, trivial⟩, ⟨hm', all_snoc hm' hlt h8, by rw [List.take_succ_eq_append_getElem hm']; exact ho1, hK⟩, by simp only; omega⟩
       ·
        have hml : (rs.take m).length = m := by rw [List.length_take]; omega
        have hom : OS 3 98 u m ((rs.take m).flatMap rc) A := by rw [hml] at ho; exact ho
        have htw := tw_eq hm hlt (fun _ => by omega)
        refine ex <| the <| the <| bkh <| thn <| sq <| rg <| ?_
        refine vl mv <| vl (ln underlying25 rfl hom.len) <| vl (aI rfl) <| nl <| thn <| sq <| rg <| vl mv <| vl (mI rfl) <| vl (mI rfl) <| vl mv <| vl (mI rfl) <| vl (ixm (m := i) underlying25 Ty.s98 rfl hs.1 rfl om om) <| vl (fe underlying98 rfl Ty.z22 rfl hs.1 om) <| vl (ldV hK Ty.o22 rfl (hs.cell om 2 rfl)) <| vl (bd [(0, _), (1, _), (2, _)] Ty.p98 Ty.i98 rfl ⟨⟨rfl, rfl⟩, ⟨rfl, rfl⟩, ⟨rfl, one_cells hx.1.one⟩, trivial⟩ rfl) <| ?_
        refine bsS1 hK underlying25 Ty.i98 rfl rfl rfl rfl rfl rfl ?_
        intro b91 w hK
        refine apR1 (xs := rs.take m) (k := (id, other, rs[i].2.2.1, rs[i].2.2.2)) (rc_one hx.1.one) hK underlying25 Ty.i98 rfl rfl rfl ho rfl (by rw [hml]; omega) fun v1 A1 w ho1 hK => ?_
        refine vl asg <| nl <| thn <| sq <| rg <| vl mv <| vl mv <| vl (mI rfl) <| vl (slLo (l := m) underlying25 Ty.s98 rfl hs.1 rfl om) <| ?_
        refine apR hK underlying25 Ty.i98 rfl rfl rfl ho1 rfl (hs.slc hm (Nat.le_refl _)) (fun k hk => hv.one k (List.mem_of_mem_take (List.mem_of_mem_drop hk))) (by simp; omega) fun v2 A2 w ho2 hK => ?_
        have e1 : rs.take m ++ [((id, other, rs[i].2.2.1, rs[i].2.2.2) : Rn)] ++ (rs.take rs.length).drop m = rs.take m ++ (id, other, rs[i].2.2.1, rs[i].2.2.2) :: rs.drop m := by rw [List.take_length, List.append_assoc]; rfl
        rw [e1] at ho2
        obtain ⟨G1, hG1, hv2, hK⟩ := K.pubR (fun x hx' => by
         rcases List.mem_append.1 hx' with h | h
         ·exact hv.aft x (List.mem_of_mem_take h)
         ·rcases List.mem_cons.1 h with rfl | h
          ·exact hx
          ·exact hv.aft x (List.mem_of_mem_drop h)) ho2 hK
        have hres : joinR (rgl rs) id other = some (rgl (rs.take m ++ (id, other, rs[i].2.2.1, rs[i].2.2.2) :: rs.drop m)) := by
         rw [joinR_yes hq', htw.1, htw.2, rgl_app, ← hn.hnd]; rfl
        have hfin : tk (rgl rs) (Pt id ∧ Pt other) (joinR (rgl rs) id other) = (rgl (rs.take m ++ (id, other, rs[i].2.2.1, rs[i].2.2.2) :: rs.drop m), true) := by rw [tk_ot ⟨hsf, hp⟩, hres]; rfl
        generalize (rs.take m ++ (id, other, rs[i].2.2.1, rs[i].2.2.2) :: rs.drop m) = R at *
        refine cl call61 rfl (l3Copy_v hK hv2 (joinR_safe hsf hp.1 hres).1) ?_
        rintro v3 w ⟨G2, rs1, hG, hr1, hv1, hK⟩
        refine vl asg <| vl (aB rfl) <| nl <| thn <| rt <| p2r (a := _) (b := .bool _) rfl rfl <| ?_
        refine ⟨G2, hG1.trans hG, ?_, hK⟩
        exact RgA.to hfin hv1 hr1
      ·have hm' : m = rs.length := by omega
       have hml : (rs.take m).length = m := by rw [List.length_take]; omega
       have hom : OS 3 98 u m ((rs.take m).flatMap rc) A := by rw [hml] at ho; exact ho
       have htw := tw_eq hm hlt (fun h => by omega)
       refine gn rfl <| gn rfl <| gn rfl <| gn rfl <| gn rfl <| gn rfl <| gn rfl <| vl (pk rfl) <| nl <| thn <| ?_
       refine cdf rfl ?_
       refine ex <| the <| the <| bkh <| thn <| sq <| rg <| ?_
       refine vl mv <| vl (ln underlying25 rfl hom.len) <| vl (aI rfl) <| nl <| thn <| sq <| rg <| vl mv <| vl (mI rfl) <| vl (mI rfl) <| vl mv <| vl (mI rfl) <| vl (ixm (m := i) underlying25 Ty.s98 rfl hs.1 rfl om om) <| vl (fe underlying98 rfl Ty.z22 rfl hs.1 om) <| vl (ldV hK Ty.o22 rfl (hs.cell om 2 rfl)) <| vl (bd [(0, _), (1, _), (2, _)] Ty.p98 Ty.i98 rfl ⟨⟨rfl, rfl⟩, ⟨rfl, rfl⟩, ⟨rfl, one_cells hx.1.one⟩, trivial⟩ rfl) <| ?_
       refine bsS1 hK underlying25 Ty.i98 rfl rfl rfl rfl rfl rfl ?_
       intro b91 w hK
       refine apR1 (xs := rs.take m) (k := (id, other, rs[i].2.2.1, rs[i].2.2.2)) (rc_one hx.1.one) hK underlying25 Ty.i98 rfl rfl rfl ho rfl (by rw [hml]; omega) fun v1 A1 w ho1 hK => ?_
       refine vl asg <| nl <| thn <| sq <| rg <| vl mv <| vl mv <| vl (mI rfl) <| vl (slLo (l := m) underlying25 Ty.s98 rfl hs.1 rfl om) <| ?_
       refine apR hK underlying25 Ty.i98 rfl rfl rfl ho1 rfl (hs.slc hm (Nat.le_refl _)) (fun k hk => hv.one k (List.mem_of_mem_take (List.mem_of_mem_drop hk))) (by simp; omega) fun v2 A2 w ho2 hK => ?_
       have e1 : rs.take m ++ [((id, other, rs[i].2.2.1, rs[i].2.2.2) : Rn)] ++ (rs.take rs.length).drop m = rs.take m ++ (id, other, rs[i].2.2.1, rs[i].2.2.2) :: rs.drop m := by rw [List.take_length, List.append_assoc]; rfl
       rw [e1] at ho2
       obtain ⟨G1, hG1, hv2, hK⟩ := K.pubR (fun x hx' => by
        rcases List.mem_append.1 hx' with h | h
        ·exact hv.aft x (List.mem_of_mem_take h)
        ·rcases List.mem_cons.1 h with rfl | h
         ·exact hx
         ·exact hv.aft x (List.mem_of_mem_drop h)) ho2 hK
       have hres : joinR (rgl rs) id other = some (rgl (rs.take m ++ (id, other, rs[i].2.2.1, rs[i].2.2.2) :: rs.drop m)) := by
        rw [joinR_yes hq', htw.1, htw.2, rgl_app, ← hn.hnd]; rfl
       have hfin : tk (rgl rs) (Pt id ∧ Pt other) (joinR (rgl rs) id other) = (rgl (rs.take m ++ (id, other, rs[i].2.2.1, rs[i].2.2.2) :: rs.drop m), true) := by rw [tk_ot ⟨hsf, hp⟩, hres]; rfl
       generalize (rs.take m ++ (id, other, rs[i].2.2.1, rs[i].2.2.2) :: rs.drop m) = R at *
       refine cl call61 rfl (l3Copy_v hK hv2 (joinR_safe hsf hp.1 hres).1) ?_
       rintro v3 w ⟨G2, rs1, hG, hr1, hv1, hK⟩
       refine vl asg <| vl (aB rfl) <| nl <| thn <| rt <| p2r (a := _) (b := .bool _) rfl rfl <| ?_
       refine ⟨G2, hG1.trans hG, ?_, hK⟩
       exact RgA.to hfin hv1 hr1
end
open Go Go.Ro Tryz
section
variable {e w : World} {G : View} {L : Own} {v u : Value} {xs ys ks : List Int} {ls : List Ls} {rs : List Rn} {a b k id other : Int} {i j : Nat}
theorem cloneN_c (hK : K e w G L) (hv : RngS G v rs) (hle : rs.length ≤ 100000) :
  Ret prog 140 #[v] w (fun r w' => ∃ A, OS 3 98 r rs.length (rs.flatMap rc) A ∧ K e w' G (A ++ L)) := by
 have hs := hv.sl
 refine enter1 (args := [v]) func140 rfl rfl rfl rfl ?_
 refine sq <| rg <| ?_
 refine vl asg <| nl <| thn <| sq <| sq <| rg <| vl mv <| vl (eqSn underlying25 rfl hs.len rfl) <| nl <| thn <| ?_
 refine cdB rfl (fun h => ?_) fun h => ?_
 ·have hx : rs = [] := List.eq_nil_of_length_eq_zero (hs.1.nil_len h)
  subst hx
  refine sq <| rg <| ?_
  refine vl asg <| nl <| thn <| rt <| thr <| p1r (a := _) rfl <| ?_
  exact ⟨[], OS.nil _ _, hK⟩
 ·refine sk <| thn <| sq <| rg <| ?_
  refine bs0 hK underlying25 Ty.i98 ?_
  intro b5 w hK
  refine vl mv <| ?_
  refine apR (xs := []) (ys := rs) hK underlying25 Ty.i98 rfl rfl rfl OS.none rfl hs hv.one (by simp; omega) fun v' A' w ho hK => ?_
  refine vl asg <| nl <| thn <| rt <| p1r (a := _) rfl <| ?_
  exact ⟨A', ho, hK⟩
end
open Go Go.Ro Tryz
section
variable {e w : World} {G : View} {L A : Own} {v u : Value} {xs ys ks : List Int} {ls : List Ls} {rs : List Rn} {a b k id other : Int} {i j sb : Nat}
theorem nodeAt_in (hK : K e w G L) (hv : RngS G v rs) (hn : NdA G rs id i) : Ret prog 134 #[v, .int .i64 id] w (fun r w' => r = .pointer (some (elA v (i * 3))) ∧ K e w' G L) :=
 (nodeAt_c hK hv).mono fun _ _ ⟨h1, h2⟩ => ⟨h1.trans (congrArg Value.pointer (nAt_of hn)), h2⟩
theorem nodeAt_no (hK : K e w G L) (hv : RngS G v rs) (hn : id ∉ ids (rgl rs)) : Ret prog 134 #[v, .int .i64 id] w (fun r w' => r = .pointer none ∧ K e w' G L) :=
 (nodeAt_c hK hv).mono fun _ _ ⟨h1, h2⟩ => ⟨h1.trans (congrArg Value.pointer (nAt_no hn)), h2⟩
end
end Go.Proofs.YtmgggljicpmndaaGreatDoor
