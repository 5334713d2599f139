/- The specification's quiet periods of a world; the law on a quiet period's items. Conditions: those that each row states. -/
import Derived.Test.YtoaeogpnbpaojaaGreatCs
import Derived.Test.YtoaeogpnbpaojaaGreatSt
namespace Go.Proofs.YtoaeogpnbpaojaaGreat
open Go Go.Ro

section
variable {e w : World} {G : View} {L A : Own} {v u cva : Value} {xs ys code : List Int} {rs qs : List Rn} {W W' : Wv} {wd wd' : Wd} {id other k : Int} {i j : Nat}

set_option maxHeartbeats 1000000 in
theorem specWorldCalm_c (hK : K e w G L) (hW : WdS G lc W wd rs) (hzl : wd.items.length ≤ 1000000) :
  Ret Tryz.prog 7 #[.agg (wc W).toArray] w (fun r w' => ∃ G' W' rs', VLe G G' ∧ r = .agg (wc W').toArray ∧ WdS G' lc W' (calF wd) rs' ∧ K e w' G' L) := by
 refine enterG1 (args := [.agg (wc W).toArray]) Tryz.func7 rfl rfl rfl rfl ?_
 refine sq <| rg <| ?_
 refine bx hK rfl rfl ?_
 intro b1 w hK
 refine al hK Ty.i30 rfl ?_
 intro b2 w hK
 refine nl <| thn <| sq <| sq <| rg <| vl (lsO hK Ty.a30 Ty.s30 1 rfl rfl rfl) <| ?_
 refine cl Tryz.call9 rfl (specWorldValid_c hK hW om) ?_
 rintro _ w ⟨rfl, hK⟩
 refine vl (ntB rfl) <| nl <| thn <| ?_
 refine cdB rfl (fun h1 => ?_) (fun h1 => ?_)
 ·have h1' := not_dec (Eq.mp (Bool.not_eq_true' _) h1)
  refine sq <| rg <| ?_
  refine vl (bd [] Ty.p30 Ty.i30 rfl trivial rfl) <| ?_
  refine soS hK Ty.i30 0 rfl rfl rfl rfl rfl rfl ?_
  intro w hK
  refine nl <| thn <| rt <| thr <| pg1r (rvS hK Ty.a30 Ty.s30 0 rfl rfl rfl) <| ?_
  rw [calF_no h1']
  exact ⟨G, ⟨0, .slice none 0 0, .slice none 0 0, .slice none 0 0, 0, .slice none 0 0, .slice none 0 0⟩, [], VLe.refl _, rfl, WdS.zero, hK.drop1.drop1⟩
 ·have hd := of_dec (Eq.mp (Bool.not_eq_false' _) h1)
  have hsf : RgSafe (rgl rs) := by rw [hW.rg]; exact hd.2.1
  have hn0 := hd.1.1
  have hn1 := hd.1.2
  have hnw := hW.now
  refine sk <| thn <| sq <| rg <| ?_
  refine vl (lsO hK Ty.a30 Ty.s30 1 rfl rfl rfl) <| ?_
  refine cl Tryz.call26 rfl (l51Copy_c hK hW hd.2.1.1 (by have := hd.2.2.1.1; omega) (by have := hd.wda.zl; omega) (by have := hd.2.2.2.2.1.2.1.len; omega) (by have := hd.2.2.2.2.2.1.len; omega)) ?_
  rintro _ w ⟨G1, W1, q1, hG1, rfl, hW1, hK⟩
  refine al hK Ty.i30 rfl ?_
  intro b3 w hK
  refine soS hK Ty.i30 0 rfl rfl rfl rfl (WdS.one hW1) rfl ?_
  intro w hK
  refine nl <| thn <| sq <| rg <| vl (fa Tryz.underlying30 rfl Ty.z23 rfl) <| vl (ldO hK Ty.o23 2 rfl rfl rfl) <| ?_
  replace hK : K e w G1 ((b3, row (wc W1) 30) :: (b2, row [.int .i64 0, .slice none 0 0, .slice none 0 0, .slice none 0 0, .int .i64 0, .slice none 0 0, .slice none 0 0] 30) :: (b1, row (wc W) 30) :: L) := hK
  refine cl Tryz.call27 rfl (l4Calm_c hK (hW.ring.mono hG1) hsf) ?_
  rintro v2 w ⟨G2, rs2, hG2, hv2, hr2, hK⟩
  have hle2 : rs2.length = rs.length := by
   have : (rgl rs2).length = (rgl rs).length := by rw [← ids_len, ← ids_len, hr2, ids_idl]
   rw [rg_len, rg_len] at this; exact this
  have h10 := hsf.1.1
  rw [rg_len] at h10
  refine vl (fa Tryz.underlying30 rfl Ty.z23 rfl) <| ?_
  refine so hK Ty.i23 rfl 0 rfl rfl rfl hv2.sl.1.one rfl ?_
  intro w hK
  refine nl <| thn <| sq <| ?_
  replace hK : K e w G2 ((b3, row (wc ⟨W1.now, v2, W1.l, W1.i, W1.next, W1.t, W1.s⟩) 30) :: (b2, row [.int .i64 0, .slice none 0 0, .slice none 0 0, .slice none 0 0, .int .i64 0, .slice none 0 0, .slice none 0 0] 30) :: (b1, row (wc W) 30) :: L) := hK
  refine rg <| ?_
  refine vl (fa Tryz.underlying30 rfl Ty.z3 rfl) <| vl (ldO hK Ty.o3 2 rfl rfl rfl) <| vl (ad rfl rfl) <| vl (ad rfl rfl) <| vl (mn rfl rfl) <| vl (fa Tryz.underlying30 rfl Ty.z3 rfl) <| ?_
  refine so hK Ty.i3 rfl 0 rfl rfl rfl rfl rfl ?_
  intro w hK
  refine nl <| thn <| sq <| ?_
  replace hK : K e w G2 ((b3, row (wc ⟨min (W.now + 20 + 1) 999, v2, W1.l, W1.i, W1.next, W1.t, W1.s⟩) 30) :: (b2, row [.int .i64 0, .slice none 0 0, .slice none 0 0, .slice none 0 0, .int .i64 0, .slice none 0 0, .slice none 0 0] 30) :: (b1, row (wc W) 30) :: L) := hK
  refine rgs (fun w => K e w G2 L) (fun w => K _ w _ _) [U,U,U,U,U,U,U,U,U,U] 10 Ty.mixed rfl rfl (hK.drawn _) ?_
  intro w hK
  have hS : (fun w => K e w G2 L) w := K.sl hK
  refine xt (i := 0) rfl kr rfl rfl (fun w hK => (fa Tryz.underlying30 rfl Ty.z23 rfl)) hS <| ?_; refine xt (i := 3) rfl kr rfl rfl (fun w hK => (fa Tryz.underlying30 rfl Ty.z3 rfl)) hS <| ?_
  refine xe2 (i := 1) (j := 4) kr rfl rfl rfl rfl ?_ ?_
  ·refine vl (ldO hK Ty.o23 0 rfl rfl rfl) <| ?_
   refine xnk (K.sl hK) fun hS => ?_
   refine xe2 (i := 2) (j := 4) kr rfl rfl rfl rfl ?_ ?_
   ·skip
    refine cl Tryz.call29 rfl (l3Ids_c hK hv2 om) ?_
    rintro u w ⟨A3, ho3, hK⟩
    obtain ⟨G3, hG3, hu3, hK⟩ := K.pubO hK ho3
    refine xnk ((K.vle (K.sl hK) hG3)) fun hS => ?_
    refine xe (i := 4) kr rfl rfl ?_
    refine vl (ldO hK Ty.o3 0 rfl rfl rfl) <| ?_
    refine xnk ((K.vle (K.sl hK) hG3)) fun hS => ?_
    refine xt (i := 5) rfl kr rfl rfl (fun w hK => (ad rfl rfl)) hS <| ?_; refine xt (i := 6) rfl kr rfl rfl (fun w hK => (mn rfl rfl)) hS <| ?_
    refine xe (i := 7) kr rfl rfl ?_
    refine cl Tryz.call28 rfl (l51Leases_c hK hu3 (by rw [ids_len, rg_len]; omega)) ?_
    rintro l w ⟨A4, ho4, hK⟩
    obtain ⟨G4, hG4, hl, hK⟩ := K.pubE (c := lc) (xs := (ids (rgl rs2)).map fun i => (i, i, min (min (W.now + 20 + 1) 999 + 20) 999)) (fun _ => rfl) hK (by rw [List.length_map]; exact ho4)
    rw [hr2, ids_idl, hW.rg] at hl
    refine xnk ((K.vle (K.sl hK) (hG3.trans hG4))) fun hS => ?_
    refine xt (i := 8) rfl kr rfl rfl (fun w hK => (fa Tryz.underlying30 rfl Ty.z24 rfl)) hS <| ?_
    refine xe (i := 9) kr rfl rfl ?_
    refine so hK Ty.i24 rfl 0 rfl rfl rfl hl.1.one rfl ?_
    intro w hK
    refine xnk ((K.vle (K.sl hK) (hG3.trans hG4))) fun hS => ?_
    refine xd kr <| thn <| sq <| ?_
    replace hK : K e w G4 ((b3, row (wc ⟨min (W.now + 20 + 1) 999, v2, l, W1.i, W1.next, W1.t, W1.s⟩) 30) :: (b2, row [.int .i64 0, .slice none 0 0, .slice none 0 0, .slice none 0 0, .int .i64 0, .slice none 0 0, .slice none 0 0] 30) :: (b1, row (wc W) 30) :: L) := hK
    have e1 : min (W.now + 20 + 1) 999 = calN wd.now := by unfold calN; rw [hnw]; congr 1; omega
    have hW3 : WdS G4 lc ⟨min (W.now + 20 + 1) 999, v2, l, W1.i, W1.next, W1.t, W1.s⟩ (calW wd) rs2 :=
     ⟨e1, hv2.mono (hG3.trans hG4), by rw [hr2, hW.rg]; rfl, by rw [e1] at hl; exact hl, EF.mono hW1.items ((hG2.trans hG3).trans hG4), hW1.next, hW1.told.mono ((hG2.trans hG3).trans hG4), hW1.since.mono ((hG2.trans hG3).trans hG4)⟩
    refine rg <| ?_
    refine vl (lsO hK Ty.a30 Ty.s30 0 rfl rfl rfl) <| ?_
    refine soS hK Ty.i30 1 rfl rfl rfl rfl (WdS.one hW3) rfl ?_
    intro w hK
    refine nl <| thn <| rt <| pg1r (rvS hK Ty.a30 Ty.s30 1 rfl rfl rfl) <| ?_
    exact ⟨G4, _, rs2, ((hG1.trans hG2).trans hG3).trans hG4, rfl, by rw [calF_yes hd]; exact hW3, hK.drop1.drop1.drop1⟩
   ·refine vl (ldO hK Ty.o3 0 rfl rfl rfl) <| ?_
    refine xnk (K.sl hK) fun hS => ?_
    refine xt (i := 5) rfl kr rfl rfl (fun w hK => (ad rfl rfl)) hS <| ?_; refine xt (i := 6) rfl kr rfl rfl (fun w hK => (mn rfl rfl)) hS <| ?_
    refine xe (i := 2) kr rfl rfl ?_
    refine cl Tryz.call29 rfl (l3Ids_c hK hv2 om) ?_
    rintro u w ⟨A3, ho3, hK⟩
    obtain ⟨G3, hG3, hu3, hK⟩ := K.pubO hK ho3
    refine xnk ((K.vle (K.sl hK) hG3)) fun hS => ?_
    refine xe (i := 7) kr rfl rfl ?_
    refine cl Tryz.call28 rfl (l51Leases_c hK hu3 (by rw [ids_len, rg_len]; omega)) ?_
    rintro l w ⟨A4, ho4, hK⟩
    obtain ⟨G4, hG4, hl, hK⟩ := K.pubE (c := lc) (xs := (ids (rgl rs2)).map fun i => (i, i, min (min (W.now + 20 + 1) 999 + 20) 999)) (fun _ => rfl) hK (by rw [List.length_map]; exact ho4)
    rw [hr2, ids_idl, hW.rg] at hl
    refine xnk ((K.vle (K.sl hK) (hG3.trans hG4))) fun hS => ?_
    refine xt (i := 8) rfl kr rfl rfl (fun w hK => (fa Tryz.underlying30 rfl Ty.z24 rfl)) hS <| ?_
    refine xe (i := 9) kr rfl rfl ?_
    refine so hK Ty.i24 rfl 0 rfl rfl rfl hl.1.one rfl ?_
    intro w hK
    refine xnk ((K.vle (K.sl hK) (hG3.trans hG4))) fun hS => ?_
    refine xd kr <| thn <| sq <| ?_
    replace hK : K e w G4 ((b3, row (wc ⟨min (W.now + 20 + 1) 999, v2, l, W1.i, W1.next, W1.t, W1.s⟩) 30) :: (b2, row [.int .i64 0, .slice none 0 0, .slice none 0 0, .slice none 0 0, .int .i64 0, .slice none 0 0, .slice none 0 0] 30) :: (b1, row (wc W) 30) :: L) := hK
    have e1 : min (W.now + 20 + 1) 999 = calN wd.now := by unfold calN; rw [hnw]; congr 1; omega
    have hW3 : WdS G4 lc ⟨min (W.now + 20 + 1) 999, v2, l, W1.i, W1.next, W1.t, W1.s⟩ (calW wd) rs2 :=
     ⟨e1, hv2.mono (hG3.trans hG4), by rw [hr2, hW.rg]; rfl, by rw [e1] at hl; exact hl, EF.mono hW1.items ((hG2.trans hG3).trans hG4), hW1.next, hW1.told.mono ((hG2.trans hG3).trans hG4), hW1.since.mono ((hG2.trans hG3).trans hG4)⟩
    refine rg <| ?_
    refine vl (lsO hK Ty.a30 Ty.s30 0 rfl rfl rfl) <| ?_
    refine soS hK Ty.i30 1 rfl rfl rfl rfl (WdS.one hW3) rfl ?_
    intro w hK
    refine nl <| thn <| rt <| pg1r (rvS hK Ty.a30 Ty.s30 1 rfl rfl rfl) <| ?_
    exact ⟨G4, _, rs2, ((hG1.trans hG2).trans hG3).trans hG4, rfl, by rw [calF_yes hd]; exact hW3, hK.drop1.drop1.drop1⟩
  ·refine vl (ldO hK Ty.o3 0 rfl rfl rfl) <| ?_
   refine xnk (K.sl hK) fun hS => ?_
   refine xt (i := 5) rfl kr rfl rfl (fun w hK => (ad rfl rfl)) hS <| ?_; refine xt (i := 6) rfl kr rfl rfl (fun w hK => (mn rfl rfl)) hS <| ?_
   refine xe (i := 1) kr rfl rfl ?_
   refine vl (ldO hK Ty.o23 0 rfl rfl rfl) <| ?_
   refine xnk (K.sl hK) fun hS => ?_
   refine xe (i := 2) kr rfl rfl ?_
   refine cl Tryz.call29 rfl (l3Ids_c hK hv2 om) ?_
   rintro u w ⟨A3, ho3, hK⟩
   obtain ⟨G3, hG3, hu3, hK⟩ := K.pubO hK ho3
   refine xnk ((K.vle (K.sl hK) hG3)) fun hS => ?_
   refine xe (i := 7) kr rfl rfl ?_
   refine cl Tryz.call28 rfl (l51Leases_c hK hu3 (by rw [ids_len, rg_len]; omega)) ?_
   rintro l w ⟨A4, ho4, hK⟩
   obtain ⟨G4, hG4, hl, hK⟩ := K.pubE (c := lc) (xs := (ids (rgl rs2)).map fun i => (i, i, min (min (W.now + 20 + 1) 999 + 20) 999)) (fun _ => rfl) hK (by rw [List.length_map]; exact ho4)
   rw [hr2, ids_idl, hW.rg] at hl
   refine xnk ((K.vle (K.sl hK) (hG3.trans hG4))) fun hS => ?_
   refine xt (i := 8) rfl kr rfl rfl (fun w hK => (fa Tryz.underlying30 rfl Ty.z24 rfl)) hS <| ?_
   refine xe (i := 9) kr rfl rfl ?_
   refine so hK Ty.i24 rfl 0 rfl rfl rfl hl.1.one rfl ?_
   intro w hK
   refine xnk ((K.vle (K.sl hK) (hG3.trans hG4))) fun hS => ?_
   refine xd kr <| thn <| sq <| ?_
   replace hK : K e w G4 ((b3, row (wc ⟨min (W.now + 20 + 1) 999, v2, l, W1.i, W1.next, W1.t, W1.s⟩) 30) :: (b2, row [.int .i64 0, .slice none 0 0, .slice none 0 0, .slice none 0 0, .int .i64 0, .slice none 0 0, .slice none 0 0] 30) :: (b1, row (wc W) 30) :: L) := hK
   have e1 : min (W.now + 20 + 1) 999 = calN wd.now := by unfold calN; rw [hnw]; congr 1; omega
   have hW3 : WdS G4 lc ⟨min (W.now + 20 + 1) 999, v2, l, W1.i, W1.next, W1.t, W1.s⟩ (calW wd) rs2 :=
    ⟨e1, hv2.mono (hG3.trans hG4), by rw [hr2, hW.rg]; rfl, by rw [e1] at hl; exact hl, EF.mono hW1.items ((hG2.trans hG3).trans hG4), hW1.next, hW1.told.mono ((hG2.trans hG3).trans hG4), hW1.since.mono ((hG2.trans hG3).trans hG4)⟩
   refine rg <| ?_
   refine vl (lsO hK Ty.a30 Ty.s30 0 rfl rfl rfl) <| ?_
   refine soS hK Ty.i30 1 rfl rfl rfl rfl (WdS.one hW3) rfl ?_
   intro w hK
   refine nl <| thn <| rt <| pg1r (rvS hK Ty.a30 Ty.s30 1 rfl rfl rfl) <| ?_
   exact ⟨G4, _, rs2, ((hG1.trans hG2).trans hG3).trans hG4, rfl, by rw [calF_yes hd]; exact hW3, hK.drop1.drop1.drop1⟩

theorem DrawWorldCalm_c (hK : K e w G L) (hc : BytS G cva code) :
  Ret Tryz.prog 5 #[cva] w (fun r w' => ∃ G' W wd rs, r = .agg (wc W).toArray ∧ VLe G G' ∧ WdS G' lc W wd rs ∧ wd.items.length ≤ 1000000 ∧ K e w' G' L) := by
 refine enterG1 (args := [cva]) Tryz.func5 rfl rfl rfl rfl ?_
 refine sq <| rg <| ?_
 refine al hK Ty.i30 rfl ?_
 intro b2 w hK
 refine nl <| thn <| sq <| rg <| vl mv <| ?_
 refine cl Tryz.call19 rfl (l6Open_c hK hc) ?_
 rintro _ w ⟨rb, cvb, code, rfl, hcode, hlen, hK⟩
 refine vl asg <| nl <| thn <| sq <| sq <| rg <| vl mv <| ?_
 refine cl Tryz.call20 rfl (pickN_c hK hcode hlen om om om) ?_
 rintro _ w ⟨⟨k7, rfl, hk7, hkn7⟩, hK⟩
 refine vl (eq rfl rfl) <| nl <| thn <| ?_
 refine cdP rfl (fun c0 => ?_) (fun c0 => ?_)
 ·refine sq <| rg <| ?_
  refine vl mv <| ?_
  refine cl Tryz.call21 rfl (l92Wrong_c hK hcode hlen om om) ?_
  rintro _ w ⟨G2, W, wd, rs, p3, hG2, rfl, hW, hil, hp5, hp6, hK⟩
  refine soS hK Ty.i30 1 rfl rfl rfl rfl (WdS.one hW) rfl ?_
  intro w hK
  refine nl <| thn <| rt <| thr <| pg1r (rvS hK Ty.a30 Ty.s30 1 rfl rfl rfl) <| ?_
  exact ⟨G2, W, wd, rs, rfl, hG2, hW, hil, hK.drop1.drop1⟩
 ·refine sk <| thn <| sq <| rg <| ?_
  refine vl mv <| ?_
  refine cl Tryz.call22 rfl (l92World_c hK hcode hlen om om) ?_
  rintro _ w ⟨G2, W, wd, rs, p3, hG2, rfl, hW, hok, hp5, hp6, hK⟩
  refine soS hK Ty.i30 1 rfl rfl rfl rfl (WdS.one hW) rfl ?_
  intro w hK
  refine nl <| thn <| rt <| pg1r (rvS hK Ty.a30 Ty.s30 1 rfl rfl rfl) <| ?_
  exact ⟨G2, W, wd, rs, rfl, hG2, hW, by have := hok.wda.zl; omega, hK.drop1.drop1⟩

set_option maxRecDepth 20000 in
set_option maxHeartbeats 1000000 in
theorem FnWorldCalmItems_c (hK : K e w G L) (hc : BytS G cva code) : Ret Tryz.prog 3 #[cva] w (fun r w' => r = .bool true ∧ ∃ G' L', K e w' G' L' ∧ VLe G G') := by
 refine enter1 (args := [cva]) Tryz.func3 rfl rfl rfl rfl ?_
 refine sq <| rg <| ?_
 refine vl (aB rfl) <| nl <| thn <| sq <| sq <| rg <| vl mv <| vl (ln Tryz.underlying22 rfl hc.len) <| vl (gt rfl rfl) <| nl <| thn <| ?_
 refine cdP rfl (fun hbig => ?_) (fun hbig => ?_)
 ·refine sq <| rg <| ?_
  refine vl (aB rfl) <| nl <| thn <| rt <| thr <| p1r (a := .bool _) rfl <| ?_
  exact ⟨rfl, _, _, hK, VLe.refl _⟩
 ·refine sk <| thn <| sq <| rg <| ?_
  refine vl mv <| ?_
  refine cl Tryz.call5 rfl (DrawWorldCalm_c hK hc) ?_
  rintro _ w ⟨G1, W, wd, rs, rfl, hG1, hW, hil, hK⟩
  refine al hK Ty.i30 rfl ?_
  intro b3 w hK
  refine soS hK Ty.i30 0 rfl rfl rfl rfl (WdS.one hW) rfl ?_
  intro w hK
  refine nl <| thn <| sq <| rg <| vl (lsO hK Ty.a30 Ty.s30 0 rfl rfl rfl) <| ?_
  refine cl Tryz.call6 rfl (implWorldCalm_c hK hW hil) ?_
  rintro _ w ⟨G2, W2, q2, hG2, rfl, hW2, hK⟩
  refine al hK Ty.i30 rfl ?_
  intro b4 w hK
  refine soS hK Ty.i30 0 rfl rfl rfl rfl (WdS.one hW2) rfl ?_
  intro w hK
  refine nl <| thn <| sq <| rg <| vl (lsO hK Ty.a30 Ty.s30 1 rfl rfl rfl) <| ?_
  refine cl Tryz.call7 rfl (specWorldCalm_c hK (hW.mono hG2) hil) ?_
  rintro _ w ⟨G3, W3, q3, hG3, rfl, hW3, hK⟩
  have hG := (hG1.trans hG2).trans hG3
  replace hW := hW.mono (hG2.trans hG3)
  replace hW2 := hW2.mono hG3
  refine al hK Ty.i30 rfl ?_
  intro b5 w hK
  refine soS hK Ty.i30 0 rfl rfl rfl rfl (WdS.one hW3) rfl ?_
  intro w hK
  refine nl <| thn <| sq <| sq <| rg <| vl (lsO hK Ty.a30 Ty.s30 1 rfl rfl rfl) <| vl (lsO hK Ty.a30 Ty.s30 0 rfl rfl rfl) <| ?_
  refine cl Tryz.call8 rfl (sameWorld_c hK hW2 hW3) ?_
  rintro _ w ⟨rfl, hK⟩
  refine vl (ntB rfl) <| vl (mB rfl) <| ?_
  refine spl (t := 19) rfl (fun h1 => ?_) (fun h1 => ?_)
  ·exact absurd rfl (not_dec (Eq.mp (Bool.not_eq_true' _) h1))
  ·refine gy rfl <| vl (lsO hK Ty.a30 Ty.s30 2 rfl rfl rfl) <| gy rfl <| ?_
   refine cl Tryz.call9 rfl (specWorldValid_c hK hW om) ?_
   rintro _ w ⟨rfl, hK⟩
   refine gy rfl <| vl (ntB rfl) <| vl (pk rfl) <| nl <| thn <| ?_
   refine cdB rfl (fun h2 => ?_) (fun h2 => ?_)
   ·refine sq <| rg <| ?_
    refine vl (lsO hK Ty.a30 Ty.s30 1 rfl rfl rfl) <| vl (lsO hK Ty.a30 Ty.s30 0 rfl rfl rfl) <| ?_
    refine cl Tryz.call8 rfl (sameWorld_c hK hW2 hW3) ?_
    rintro _ w ⟨rfl, hK⟩
    refine vl (aB rfl) <| nl <| thn <| rt <| thr <| p1r (a := .bool _) rfl <| ?_
    exact ⟨congrArg Value.bool (dec_t rfl), _, _, hK, hG⟩
   ·have hok : WdOk wd := of_dec (Eq.mp (Bool.not_eq_false' _) h2)
    rw [calF_yes hok] at hW2 hW3
    have hcok := calW_ok hok
    refine sk <| thn <| sq <| rg <| ?_
    refine vl (fa Tryz.underlying30 rfl Ty.z25 rfl) <| vl (ldO hK Ty.o25 1 rfl rfl rfl) <| vl (fa Tryz.underlying30 rfl Ty.z25 rfl) <| vl (ldO hK Ty.o25 2 rfl rfl rfl) <| ?_
    refine cl Tryz.call10 rfl (sameItems_c hK hW2.items hW.items) ?_
    rintro _ w ⟨rfl, hK⟩
    refine vl (mB rfl) <| ?_
    refine spl (t := 32) rfl (fun h3 => ?_) (fun h3 => ?_)
    ·refine gy rfl <| vl (fa Tryz.underlying30 rfl Ty.z28 rfl) <| gy rfl <| vl (lsP (u := [.int .i64 W2.next, W2.t]) hK Ty.a28 Ty.s28 1 rfl rfl rfl rfl) <| gy rfl <| vl (fa Tryz.underlying30 rfl Ty.z28 rfl) <| gy rfl <| vl (lsP (u := [.int .i64 W.next, W.t]) hK Ty.a28 Ty.s28 2 rfl rfl rfl rfl) <| gy rfl <| ?_
     refine cl Tryz.call11 rfl (sameScan_c hK hW2.told hW.told) ?_
     rintro _ w ⟨rfl, hK⟩
     refine vl (pk rfl) <| vl (mB rfl) <| ?_
     refine spl (t := 39) rfl (fun h4 => ?_) (fun h4 => ?_)
     ·refine gy rfl <| vl (fa Tryz.underlying30 rfl Ty.z26 rfl) <| gy rfl <| vl (ldO hK Ty.o26 1 rfl rfl rfl) <| gy rfl <| vl (fa Tryz.underlying30 rfl Ty.z26 rfl) <| gy rfl <| vl (ldO hK Ty.o26 2 rfl rfl rfl) <| gy rfl <| ?_
      refine cl Tryz.call12 rfl (sameInts_c hK hW2.since hW.since) ?_
      rintro _ w ⟨rfl, hK⟩
      refine vl (pk rfl) <| vl (mB rfl) <| ?_
      refine spl (t := 46) rfl (fun h5 => ?_) (fun h5 => ?_)
      ·refine gy rfl <| vl (lsO hK Ty.a30 Ty.s30 1 rfl rfl rfl) <| gy rfl <| ?_
       refine cl Tryz.call13 rfl (implWorldValid_c hK hW2 (by show wd.items.length ≤ _; omega)) ?_
       rintro _ w ⟨rfl, hK⟩
       refine vl (pk rfl) <| vl (aB rfl) <| nl <| thn <| rt <| p1r (a := .bool _) rfl <| ?_
       exact ⟨congrArg Value.bool (dec_t hcok), _, _, hK, hG⟩
      ·exact absurd (decide_eq_true rfl : decide ((calW wd).since = wd.since) = true) (by rw [h5]; simp)
     ·have e1 := hW2.next
      have e2 := hW.next
      exact absurd (decide_eq_true (⟨e1.trans e2.symm, rfl⟩ : W2.next = W.next ∧ (calW wd).scan.2 = wd.scan.2)) (by rw [h4]; simp)
    ·exact absurd rfl (not_dec h3)
end
end Go.Proofs.YtoaeogpnbpaojaaGreat
