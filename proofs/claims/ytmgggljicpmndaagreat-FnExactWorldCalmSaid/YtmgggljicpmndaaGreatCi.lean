/- The specification's quiet periods of a world; the law on a quiet period's items. Conditions: those that each row states. -/
import Derived.Test.YtmgggljicpmndaaGreatCs
namespace Go.Proofs.YtmgggljicpmndaaGreat
open Go Go.Ro Tryz
section
variable {e w : World} {G : View} {L A : Own} {v u cva : Value} {xs ys code : List Int} {rs qs : List Rn} {W W' : Wv} {wd wd' : Wd} {id other k : Int} {i j : Nat}
set_option maxHeartbeats 1000000 in
theorem specWorldCalm_c (hK : K e w G L) (hW : WdS G lc W wd rs) (hzl : wd.items.length ≤ 1048576) :
  Ret prog 5 #[.agg (wc W).toArray] w (fun r w' => ∃ G' W' rs', VLe G G' ∧ r = .agg (wc W').toArray ∧ WdS G' lc W' (calF wd) rs' ∧ K e w' G' L) := by
 refine enterG1 (args := [.agg (wc W).toArray]) func5 rfl rfl rfl rfl ?_
 refine sq <| rg <| ?_
 refine bx hK rfl rfl ?_
 intro b1 w hK
 refine al hK Ty.i36 rfl ?_
 intro b2 w hK
 refine nl <| thn <| sq <| sq <| rg <| vl (lsO hK Ty.a36 Ty.s36 1 rfl rfl rfl) <| ?_
 refine cl call16 rfl (specWorldValid_c hK hW om) ?_
 rintro _ w ⟨rfl, hK⟩
 refine vl (ntB rfl) <| nl <| thn <| ?_
 refine cdB rfl (fun h1 => ?_) fun h1 => ?_
 ·have h1' := not_dec (Eq.mp (Bool.not_eq_true' _) h1)
  refine sq <| rg <| ?_
  refine vl (bd [] Ty.p36 Ty.i36 rfl trivial rfl) <| ?_
  refine soS hK Ty.i36 0 rfl rfl rfl rfl rfl rfl ?_
  intro w hK
  refine nl <| thn <| rt <| thr <| pg1r (rvS hK Ty.a36 Ty.s36 0 rfl rfl rfl) <| ?_
  rw [calF_no h1']
  exact ⟨G, ⟨0, .slice none 0 0, .slice none 0 0, .slice none 0 0, 0, .slice none 0 0, .slice none 0 0⟩, [], VLe.refl _, rfl, WdS.zero, hK.drop1.drop1⟩
 ·have hd := of_dec (Eq.mp (Bool.not_eq_false' _) h1)
  have hsf : RgSafe (rgl rs) := by rw [hW.rg]; exact hd.2.1
  have hn0 := hd.1.1
  have hn1 := hd.1.2
  have hnw := hW.now
  refine sk <| thn <| sq <| rg <| ?_
  refine vl (lsO hK Ty.a36 Ty.s36 1 rfl rfl rfl) <| ?_
  refine cl call17 rfl (l51Copy_c hK hW hd.2.1.1 (by have := hd.2.2.1.1; omega) (by have := hd.wda.zl; omega) (by have := hd.2.2.2.2.1.2.1.len; omega) (by have := hd.2.2.2.2.2.1.len; omega)) ?_
  rintro _ w ⟨G1, W1, q1, hG1, rfl, hW1, hK⟩
  refine al hK Ty.i36 rfl ?_
  intro b3 w hK
  refine soS hK Ty.i36 0 rfl rfl rfl rfl (WdS.one hW1) rfl ?_
  intro w hK
  refine nl <| thn <| sq <| rg <| vl (fa underlying36 rfl Ty.z31 rfl) <| vl (ldO hK Ty.o31 2 rfl rfl rfl) <| ?_
  replace hK : K e w G1 ((b3, row (wc W1) 36) :: (b2, row [.int .i64 0, .slice none 0 0, .slice none 0 0, .slice none 0 0, .int .i64 0, .slice none 0 0, .slice none 0 0] 36) :: (b1, row (wc W) 36) :: L) := hK
  refine cl call18 rfl (l4Calm_c hK (hW.ring.mono hG1) hsf) ?_
  rintro v2 w ⟨G2, rs2, hG2, hv2, hr2, hK⟩
  have hle2 : rs2.length = rs.length := by
   have : (rgl rs2).length = (rgl rs).length := by rw [← ids_len, ← ids_len, hr2, ids_idl]
   rw [rg_len, rg_len] at this; exact this
  have h10 := hsf.1.1
  rw [rg_len] at h10
  refine vl (fa underlying36 rfl Ty.z31 rfl) <| ?_
  refine so hK Ty.i31 rfl 0 rfl rfl rfl hv2.sl.1.one rfl ?_
  intro w hK
  refine nl <| thn <| sq <| ?_
  replace hK : K e w G2 ((b3, row (wc ⟨W1.now, v2, W1.l, W1.i, W1.next, W1.t, W1.s⟩) 36) :: (b2, row [.int .i64 0, .slice none 0 0, .slice none 0 0, .slice none 0 0, .int .i64 0, .slice none 0 0, .slice none 0 0] 36) :: (b1, row (wc W) 36) :: L) := hK
  refine rg <| ?_
  refine vl (fa underlying36 rfl Ty.z3 rfl) <| vl (ldO hK Ty.o3 2 rfl rfl rfl) <| vl (ad rfl rfl) <| vl (ad rfl rfl) <| vl (mn rfl rfl) <| vl (fa underlying36 rfl Ty.z3 rfl) <| ?_
  refine so hK Ty.i3 rfl 0 rfl rfl rfl rfl rfl ?_
  intro w hK
  refine nl <| thn <| sq <| ?_
  replace hK : K e w G2 ((b3, row (wc ⟨min (W.now + 20 + 1) 999, v2, W1.l, W1.i, W1.next, W1.t, W1.s⟩) 36) :: (b2, row [.int .i64 0, .slice none 0 0, .slice none 0 0, .slice none 0 0, .int .i64 0, .slice none 0 0, .slice none 0 0] 36) :: (b1, row (wc W) 36) :: L) := hK
  refine rgs (fun w => K e w G2 L) (fun w => K _ w _ _) [U,U,U,U,U,U,U,U,U,U] 10 Ty.mixed rfl rfl (hK.drawn _) ?_
  intro w hK
  have hS : (fun w => K e w G2 L) w := K.sl hK
  refine xt (i := 0) rfl kr rfl rfl (fun w hK => (fa underlying36 rfl Ty.z31 rfl)) hS <| xt (i := 3) rfl kr rfl rfl (fun w hK => (fa underlying36 rfl Ty.z3 rfl)) hS <| ?_
  refine xe2 (i := 1) (j := 4) kr rfl rfl rfl rfl ?_ ?_
  ·refine vl (ldO hK Ty.o31 0 rfl rfl rfl) <| ?_
   refine xnk (K.sl hK) fun hS => ?_
   refine xe2 (i := 2) (j := 4) kr rfl rfl rfl rfl ?_ ?_
   ·skip
    refine cl call20 rfl (l3Ids_c hK hv2 om) ?_
    rintro u w ⟨A3, ho3, hK⟩
    obtain ⟨G3, hG3, hu3, hK⟩ := K.pubO hK ho3
    refine xnk ((K.vle (K.sl hK) hG3)) fun hS => ?_
    refine xe (i := 4) kr rfl rfl ?_
    refine vl (ldO hK Ty.o3 0 rfl rfl rfl) <| ?_
    refine xnk ((K.vle (K.sl hK) hG3)) fun hS => ?_
    refine xt (i := 5) rfl kr rfl rfl (fun w hK => (ad rfl rfl)) hS <| xt (i := 6) rfl kr rfl rfl (fun w hK => (mn rfl rfl)) hS <| ?_
    refine xe (i := 7) kr rfl rfl ?_
    refine cl call19 rfl (l51Leases_c hK hu3 (by rw [ids_len, rg_len]; omega)) ?_
    rintro l w ⟨A4, ho4, hK⟩
    obtain ⟨G4, hG4, hl, hK⟩ := K.pubE (c := lc) (xs := (ids (rgl rs2)).map fun i => (i, i, min (min (W.now + 20 + 1) 999 + 20) 999)) (fun _ => rfl) hK (by rw [List.length_map]; exact ho4)
    rw [hr2, ids_idl, hW.rg] at hl
    refine xnk ((K.vle (K.sl hK) (hG3.trans hG4))) fun hS => ?_
    refine xt (i := 8) rfl kr rfl rfl (fun w hK => (fa underlying36 rfl Ty.z32 rfl)) hS <| ?_
    refine xe (i := 9) kr rfl rfl ?_
    refine so hK Ty.i32 rfl 0 rfl rfl rfl hl.1.one rfl ?_
    intro w hK
    refine xnk ((K.vle (K.sl hK) (hG3.trans hG4))) fun hS => ?_
    refine xd kr <| thn <| sq <| ?_
    replace hK : K e w G4 ((b3, row (wc ⟨min (W.now + 20 + 1) 999, v2, l, W1.i, W1.next, W1.t, W1.s⟩) 36) :: (b2, row [.int .i64 0, .slice none 0 0, .slice none 0 0, .slice none 0 0, .int .i64 0, .slice none 0 0, .slice none 0 0] 36) :: (b1, row (wc W) 36) :: L) := hK
    have e1 : min (W.now + 20 + 1) 999 = calN wd.now := by unfold calN; rw [hnw]; congr 1; omega
    have hW3 : WdS G4 lc ⟨min (W.now + 20 + 1) 999, v2, l, W1.i, W1.next, W1.t, W1.s⟩ (calW wd) rs2 :=
     ⟨e1, hv2.mono (hG3.trans hG4), by rw [hr2, hW.rg]; rfl, by rw [e1] at hl; exact hl, EF.mono hW1.items ((hG2.trans hG3).trans hG4), hW1.next, hW1.told.mono ((hG2.trans hG3).trans hG4), hW1.since.mono ((hG2.trans hG3).trans hG4)⟩
    refine rg <| ?_
    refine vl (lsO hK Ty.a36 Ty.s36 0 rfl rfl rfl) <| ?_
    refine soS hK Ty.i36 1 rfl rfl rfl rfl (WdS.one hW3) rfl ?_
    intro w hK
    refine nl <| thn <| rt <| pg1r (rvS hK Ty.a36 Ty.s36 1 rfl rfl rfl) <| ?_
    exact ⟨G4, _, rs2, ((hG1.trans hG2).trans hG3).trans hG4, rfl, by rw [calF_yes hd]; exact hW3, hK.drop1.drop1.drop1⟩
   ·refine vl (ldO hK Ty.o3 0 rfl rfl rfl) <| ?_
    refine xnk (K.sl hK) fun hS => ?_
    refine xt (i := 5) rfl kr rfl rfl (fun w hK => (ad rfl rfl)) hS <| xt (i := 6) rfl kr rfl rfl (fun w hK => (mn rfl rfl)) hS <| ?_
    refine xe (i := 2) kr rfl rfl ?_
    refine cl call20 rfl (l3Ids_c hK hv2 om) ?_
    rintro u w ⟨A3, ho3, hK⟩
    obtain ⟨G3, hG3, hu3, hK⟩ := K.pubO hK ho3
    refine xnk ((K.vle (K.sl hK) hG3)) fun hS => ?_
    refine xe (i := 7) kr rfl rfl ?_
    refine cl call19 rfl (l51Leases_c hK hu3 (by rw [ids_len, rg_len]; omega)) ?_
    rintro l w ⟨A4, ho4, hK⟩
    obtain ⟨G4, hG4, hl, hK⟩ := K.pubE (c := lc) (xs := (ids (rgl rs2)).map fun i => (i, i, min (min (W.now + 20 + 1) 999 + 20) 999)) (fun _ => rfl) hK (by rw [List.length_map]; exact ho4)
    rw [hr2, ids_idl, hW.rg] at hl
    refine xnk ((K.vle (K.sl hK) (hG3.trans hG4))) fun hS => ?_
    refine xt (i := 8) rfl kr rfl rfl (fun w hK => (fa underlying36 rfl Ty.z32 rfl)) hS <| ?_
    refine xe (i := 9) kr rfl rfl ?_
    refine so hK Ty.i32 rfl 0 rfl rfl rfl hl.1.one rfl ?_
    intro w hK
    refine xnk ((K.vle (K.sl hK) (hG3.trans hG4))) fun hS => ?_
    refine xd kr <| thn <| sq <| ?_
    replace hK : K e w G4 ((b3, row (wc ⟨min (W.now + 20 + 1) 999, v2, l, W1.i, W1.next, W1.t, W1.s⟩) 36) :: (b2, row [.int .i64 0, .slice none 0 0, .slice none 0 0, .slice none 0 0, .int .i64 0, .slice none 0 0, .slice none 0 0] 36) :: (b1, row (wc W) 36) :: L) := hK
    have e1 : min (W.now + 20 + 1) 999 = calN wd.now := by unfold calN; rw [hnw]; congr 1; omega
    have hW3 : WdS G4 lc ⟨min (W.now + 20 + 1) 999, v2, l, W1.i, W1.next, W1.t, W1.s⟩ (calW wd) rs2 :=
     ⟨e1, hv2.mono (hG3.trans hG4), by rw [hr2, hW.rg]; rfl, by rw [e1] at hl; exact hl, EF.mono hW1.items ((hG2.trans hG3).trans hG4), hW1.next, hW1.told.mono ((hG2.trans hG3).trans hG4), hW1.since.mono ((hG2.trans hG3).trans hG4)⟩
    refine rg <| ?_
    refine vl (lsO hK Ty.a36 Ty.s36 0 rfl rfl rfl) <| ?_
    refine soS hK Ty.i36 1 rfl rfl rfl rfl (WdS.one hW3) rfl ?_
    intro w hK
    refine nl <| thn <| rt <| pg1r (rvS hK Ty.a36 Ty.s36 1 rfl rfl rfl) <| ?_
    exact ⟨G4, _, rs2, ((hG1.trans hG2).trans hG3).trans hG4, rfl, by rw [calF_yes hd]; exact hW3, hK.drop1.drop1.drop1⟩
  ·refine vl (ldO hK Ty.o3 0 rfl rfl rfl) <| ?_
   refine xnk (K.sl hK) fun hS => ?_
   refine xt (i := 5) rfl kr rfl rfl (fun w hK => (ad rfl rfl)) hS <| xt (i := 6) rfl kr rfl rfl (fun w hK => (mn rfl rfl)) hS <| ?_
   refine xe (i := 1) kr rfl rfl ?_
   refine vl (ldO hK Ty.o31 0 rfl rfl rfl) <| ?_
   refine xnk (K.sl hK) fun hS => ?_
   refine xe (i := 2) kr rfl rfl ?_
   refine cl call20 rfl (l3Ids_c hK hv2 om) ?_
   rintro u w ⟨A3, ho3, hK⟩
   obtain ⟨G3, hG3, hu3, hK⟩ := K.pubO hK ho3
   refine xnk ((K.vle (K.sl hK) hG3)) fun hS => ?_
   refine xe (i := 7) kr rfl rfl ?_
   refine cl call19 rfl (l51Leases_c hK hu3 (by rw [ids_len, rg_len]; omega)) ?_
   rintro l w ⟨A4, ho4, hK⟩
   obtain ⟨G4, hG4, hl, hK⟩ := K.pubE (c := lc) (xs := (ids (rgl rs2)).map fun i => (i, i, min (min (W.now + 20 + 1) 999 + 20) 999)) (fun _ => rfl) hK (by rw [List.length_map]; exact ho4)
   rw [hr2, ids_idl, hW.rg] at hl
   refine xnk ((K.vle (K.sl hK) (hG3.trans hG4))) fun hS => ?_
   refine xt (i := 8) rfl kr rfl rfl (fun w hK => (fa underlying36 rfl Ty.z32 rfl)) hS <| ?_
   refine xe (i := 9) kr rfl rfl ?_
   refine so hK Ty.i32 rfl 0 rfl rfl rfl hl.1.one rfl ?_
   intro w hK
   refine xnk ((K.vle (K.sl hK) (hG3.trans hG4))) fun hS => ?_
   refine xd kr <| thn <| sq <| ?_
   replace hK : K e w G4 ((b3, row (wc ⟨min (W.now + 20 + 1) 999, v2, l, W1.i, W1.next, W1.t, W1.s⟩) 36) :: (b2, row [.int .i64 0, .slice none 0 0, .slice none 0 0, .slice none 0 0, .int .i64 0, .slice none 0 0, .slice none 0 0] 36) :: (b1, row (wc W) 36) :: L) := hK
   have e1 : min (W.now + 20 + 1) 999 = calN wd.now := by unfold calN; rw [hnw]; congr 1; omega
   have hW3 : WdS G4 lc ⟨min (W.now + 20 + 1) 999, v2, l, W1.i, W1.next, W1.t, W1.s⟩ (calW wd) rs2 :=
    ⟨e1, hv2.mono (hG3.trans hG4), by rw [hr2, hW.rg]; rfl, by rw [e1] at hl; exact hl, EF.mono hW1.items ((hG2.trans hG3).trans hG4), hW1.next, hW1.told.mono ((hG2.trans hG3).trans hG4), hW1.since.mono ((hG2.trans hG3).trans hG4)⟩
   refine rg <| ?_
   refine vl (lsO hK Ty.a36 Ty.s36 0 rfl rfl rfl) <| ?_
   refine soS hK Ty.i36 1 rfl rfl rfl rfl (WdS.one hW3) rfl ?_
   intro w hK
   refine nl <| thn <| rt <| pg1r (rvS hK Ty.a36 Ty.s36 1 rfl rfl rfl) <| ?_
   exact ⟨G4, _, rs2, ((hG1.trans hG2).trans hG3).trans hG4, rfl, by rw [calF_yes hd]; exact hW3, hK.drop1.drop1.drop1⟩
end
end Go.Proofs.YtmgggljicpmndaaGreat