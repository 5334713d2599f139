/- The specification's quiet periods of a world; the law on a quiet period's items. Contracts of functions on strings: decimals. Contracts of functions on strings: cutting. Conditions: those that each row states. -/
import Derived.Test.YtbiihblpgfgaoabGreatDoorCs
import Derived.Test.YtbiihblpgfgaoabGreatDoorDf
import Derived.Test.YtbiihblpgfgaoabGreatDoorSpM
import Derived.Test.YtbiihblpgfgaoabGreatDoorIn
import Derived.Lib.ItoaNum
namespace Go.Proofs.YtbiihblpgfgaoabGreatDoor
open Go Go.Ro Tryz
section
variable {e w : World} {G : View} {L A : Own} {v u cva : Value} {xs ys code : List Int} {rs qs : List Rn} {W W' : Wv} {wd wd' : Wd} {id other k : Int} {i j : Nat}
set_option maxHeartbeats 1000000 in
theorem specWorldCalm_c (hK : K e w G L) (hW : WdS G lc W wd rs) (hzl : wd.items.length ≤ 1000000) :
  Ret prog 40 #[.agg (wc W).toArray] w (fun r w' => ∃ G' W' rs', VLe G G' ∧ r = .agg (wc W').toArray ∧ WdS G' lc W' (calF wd) rs' ∧ K e w' G' L) := by
 refine enterG1 (args := [.agg (wc W).toArray]) func40 rfl rfl rfl rfl ?_
 refine sq <| rg <| ?_
 refine bx hK rfl rfl ?_
 intro b1 w hK
 refine al hK Ty.i39 rfl ?_
 intro b2 w hK
 refine nl <| thn <| sq <| sq <| rg <| vl (lsO hK Ty.a39 Ty.s39 1 rfl rfl rfl) <| ?_
 refine cl call66 rfl (specWorldValid_c hK hW om) ?_
 rintro _ w ⟨rfl, hK⟩
 refine vl (ntB rfl) <| nl <| thn <| ?_
 refine cdB rfl (fun h1 => ?_) fun h1 => ?_
 ·have h1' := not_dec (Eq.mp (Bool.not_eq_true' _) h1)
  refine sq <| rg <| ?_
  refine vl (bd [] Ty.p39 Ty.i39 rfl trivial rfl) <| ?_
  refine soS hK Ty.i39 0 rfl rfl rfl rfl rfl rfl ?_
  intro w hK
  refine nl <| thn <| rt <| thr <| pg1r (rvS hK Ty.a39 Ty.s39 0 rfl rfl rfl) <| ?_
  rw [calF_no h1']
  exact ⟨G, ⟨0, .slice none 0 0, .slice none 0 0, .slice none 0 0, 0, .slice none 0 0, .slice none 0 0⟩, [], VLe.refl _, rfl, WdS.zero, hK.drop1.drop1⟩
 ·have hd := of_dec (Eq.mp (Bool.not_eq_false' _) h1)
  have hsf : RgSafe (rgl rs) := by rw [hW.rg]; exact hd.2.1
  have hn0 := hd.1.1
  have hn1 := hd.1.2
  have hnw := hW.now
  refine sk <| thn <| sq <| rg <| ?_
  refine vl (lsO hK Ty.a39 Ty.s39 1 rfl rfl rfl) <| ?_
  refine cl call67 rfl (l51Copy_c hK hW hd.2.1.1 (by have := hd.2.2.1.1; omega) (by have := hd.wda.zl; omega) (by have := hd.2.2.2.2.1.2.1.len; omega) (by have := hd.2.2.2.2.2.1.len; omega)) ?_
  rintro _ w ⟨G1, W1, q1, hG1, rfl, hW1, hK⟩
  refine al hK Ty.i39 rfl ?_
  intro b3 w hK
  refine soS hK Ty.i39 0 rfl rfl rfl rfl (WdS.one hW1) rfl ?_
  intro w hK
  refine nl <| thn <| sq <| rg <| vl (fa underlying39 rfl Ty.z32 rfl) <| vl (ldO hK Ty.o32 2 rfl rfl rfl) <| ?_
  replace hK : K e w G1 ((b3, row (wc W1) 39) :: (b2, row [.int .i64 0, .slice none 0 0, .slice none 0 0, .slice none 0 0, .int .i64 0, .slice none 0 0, .slice none 0 0] 39) :: (b1, row (wc W) 39) :: L) := hK
  refine cl call68 rfl (l4Calm_c hK (hW.ring.mono hG1) hsf) ?_
  rintro v2 w ⟨G2, rs2, hG2, hv2, hr2, hK⟩
  have hle2 : rs2.length = rs.length := by
   have : (rgl rs2).length = (rgl rs).length := by rw [← ids_len, ← ids_len, hr2, ids_idl]
   rw [rg_len, rg_len] at this; exact this
  have h10 := hsf.1.1
  rw [rg_len] at h10
  refine vl (fa underlying39 rfl Ty.z32 rfl) <| ?_
  refine so hK Ty.i32 rfl 0 rfl rfl rfl hv2.sl.1.one rfl ?_
  intro w hK
  refine nl <| thn <| sq <| ?_
  replace hK : K e w G2 ((b3, row (wc ⟨W1.now, v2, W1.l, W1.i, W1.next, W1.t, W1.s⟩) 39) :: (b2, row [.int .i64 0, .slice none 0 0, .slice none 0 0, .slice none 0 0, .int .i64 0, .slice none 0 0, .slice none 0 0] 39) :: (b1, row (wc W) 39) :: L) := hK
  refine rg <| ?_
  refine vl (fa underlying39 rfl Ty.z3 rfl) <| vl (ldO hK Ty.o3 2 rfl rfl rfl) <| vl (ad rfl rfl) <| vl (ad rfl rfl) <| vl (mn rfl rfl) <| vl (fa underlying39 rfl Ty.z3 rfl) <| ?_
  refine so hK Ty.i3 rfl 0 rfl rfl rfl rfl rfl ?_
  intro w hK
  refine nl <| thn <| sq <| ?_
  replace hK : K e w G2 ((b3, row (wc ⟨min (W.now + 20 + 1) 999, v2, W1.l, W1.i, W1.next, W1.t, W1.s⟩) 39) :: (b2, row [.int .i64 0, .slice none 0 0, .slice none 0 0, .slice none 0 0, .int .i64 0, .slice none 0 0, .slice none 0 0] 39) :: (b1, row (wc W) 39) :: L) := hK
  refine rgs (fun w => K e w G2 L) (fun w => K _ w _ _) [U,U,U,U,U,U,U,U,U,U] 10 Ty.mixed rfl rfl (hK.drawn _) ?_
  intro w hK
  have hS : (fun w => K e w G2 L) w := K.sl hK
  refine xt (i := 0) rfl kr rfl rfl (fun w hK => (fa underlying39 rfl Ty.z32 rfl)) hS <| xt (i := 3) rfl kr rfl rfl (fun w hK => (fa underlying39 rfl Ty.z3 rfl)) hS <| ?_
  refine xe2 (i := 1) (j := 4) kr rfl rfl rfl rfl ?_ ?_
  ·refine vl (ldO hK Ty.o32 0 rfl rfl rfl) <| ?_
   refine xnk (K.sl hK) fun hS => ?_
   refine xe2 (i := 2) (j := 4) kr rfl rfl rfl rfl ?_ ?_
   ·skip
    refine cl call69 rfl (l3Ids_c hK hv2 om) ?_
    rintro u w ⟨A3, ho3, hK⟩
    obtain ⟨G3, hG3, hu3, hK⟩ := K.pubO hK ho3
    refine xnk ((K.vle (K.sl hK) hG3)) fun hS => ?_
    refine xe (i := 4) kr rfl rfl ?_
    refine vl (ldO hK Ty.o3 0 rfl rfl rfl) <| ?_
    refine xnk ((K.vle (K.sl hK) hG3)) fun hS => ?_
    refine xt (i := 5) rfl kr rfl rfl (fun w hK => (ad rfl rfl)) hS <| xt (i := 6) rfl kr rfl rfl (fun w hK => (mn rfl rfl)) hS <| ?_
    refine xe (i := 7) kr rfl rfl ?_
    refine cl call35 rfl (l51Leases_c hK hu3 (by rw [ids_len, rg_len]; omega)) ?_
    rintro l w ⟨A4, ho4, hK⟩
    obtain ⟨G4, hG4, hl, hK⟩ := K.pubE (c := lc) (xs := (ids (rgl rs2)).map fun i => (i, i, min (min (W.now + 20 + 1) 999 + 20) 999)) (fun _ => rfl) hK (by rw [List.length_map]; exact ho4)
    rw [hr2, ids_idl, hW.rg] at hl
    refine xnk ((K.vle (K.sl hK) (hG3.trans hG4))) fun hS => ?_
    refine xt (i := 8) rfl kr rfl rfl (fun w hK => (fa underlying39 rfl Ty.z33 rfl)) hS <| ?_
    refine xe (i := 9) kr rfl rfl ?_
    refine so hK Ty.i33 rfl 0 rfl rfl rfl hl.1.one rfl ?_
    intro w hK
    refine xnk ((K.vle (K.sl hK) (hG3.trans hG4))) fun hS => ?_
    refine xd kr <| thn <| sq <| ?_
    replace hK : K e w G4 ((b3, row (wc ⟨min (W.now + 20 + 1) 999, v2, l, W1.i, W1.next, W1.t, W1.s⟩) 39) :: (b2, row [.int .i64 0, .slice none 0 0, .slice none 0 0, .slice none 0 0, .int .i64 0, .slice none 0 0, .slice none 0 0] 39) :: (b1, row (wc W) 39) :: L) := hK
    have e1 : min (W.now + 20 + 1) 999 = calN wd.now := by unfold calN; rw [hnw]; congr 1; omega
    have hW3 : WdS G4 lc ⟨min (W.now + 20 + 1) 999, v2, l, W1.i, W1.next, W1.t, W1.s⟩ (calW wd) rs2 :=
     ⟨e1, hv2.mono (hG3.trans hG4), by rw [hr2, hW.rg]; rfl, by rw [e1] at hl; exact hl, EF.mono hW1.items ((hG2.trans hG3).trans hG4), hW1.next, hW1.told.mono ((hG2.trans hG3).trans hG4), hW1.since.mono ((hG2.trans hG3).trans hG4)⟩
    refine rg <| ?_
    refine vl (lsO hK Ty.a39 Ty.s39 0 rfl rfl rfl) <| ?_
    refine soS hK Ty.i39 1 rfl rfl rfl rfl (WdS.one hW3) rfl ?_
    intro w hK
    refine nl <| thn <| rt <| pg1r (rvS hK Ty.a39 Ty.s39 1 rfl rfl rfl) <| ?_
    exact ⟨G4, _, rs2, ((hG1.trans hG2).trans hG3).trans hG4, rfl, by rw [calF_yes hd]; exact hW3, hK.drop1.drop1.drop1⟩
   ·refine vl (ldO hK Ty.o3 0 rfl rfl rfl) <| ?_
    refine xnk (K.sl hK) fun hS => ?_
    refine xt (i := 5) rfl kr rfl rfl (fun w hK => (ad rfl rfl)) hS <| xt (i := 6) rfl kr rfl rfl (fun w hK => (mn rfl rfl)) hS <| ?_
    refine xe (i := 2) kr rfl rfl ?_
    refine cl call69 rfl (l3Ids_c hK hv2 om) ?_
    rintro u w ⟨A3, ho3, hK⟩
    obtain ⟨G3, hG3, hu3, hK⟩ := K.pubO hK ho3
    refine xnk ((K.vle (K.sl hK) hG3)) fun hS => ?_
    refine xe (i := 7) kr rfl rfl ?_
    refine cl call35 rfl (l51Leases_c hK hu3 (by rw [ids_len, rg_len]; omega)) ?_
    rintro l w ⟨A4, ho4, hK⟩
    obtain ⟨G4, hG4, hl, hK⟩ := K.pubE (c := lc) (xs := (ids (rgl rs2)).map fun i => (i, i, min (min (W.now + 20 + 1) 999 + 20) 999)) (fun _ => rfl) hK (by rw [List.length_map]; exact ho4)
    rw [hr2, ids_idl, hW.rg] at hl
    refine xnk ((K.vle (K.sl hK) (hG3.trans hG4))) fun hS => ?_
    refine xt (i := 8) rfl kr rfl rfl (fun w hK => (fa underlying39 rfl Ty.z33 rfl)) hS <| ?_
    refine xe (i := 9) kr rfl rfl ?_
    refine so hK Ty.i33 rfl 0 rfl rfl rfl hl.1.one rfl ?_
    intro w hK
    refine xnk ((K.vle (K.sl hK) (hG3.trans hG4))) fun hS => ?_
    refine xd kr <| thn <| sq <| ?_
    replace hK : K e w G4 ((b3, row (wc ⟨min (W.now + 20 + 1) 999, v2, l, W1.i, W1.next, W1.t, W1.s⟩) 39) :: (b2, row [.int .i64 0, .slice none 0 0, .slice none 0 0, .slice none 0 0, .int .i64 0, .slice none 0 0, .slice none 0 0] 39) :: (b1, row (wc W) 39) :: L) := hK
    have e1 : min (W.now + 20 + 1) 999 = calN wd.now := by unfold calN; rw [hnw]; congr 1; omega
    have hW3 : WdS G4 lc ⟨min (W.now + 20 + 1) 999, v2, l, W1.i, W1.next, W1.t, W1.s⟩ (calW wd) rs2 :=
     ⟨e1, hv2.mono (hG3.trans hG4), by rw [hr2, hW.rg]; rfl, by rw [e1] at hl; exact hl, EF.mono hW1.items ((hG2.trans hG3).trans hG4), hW1.next, hW1.told.mono ((hG2.trans hG3).trans hG4), hW1.since.mono ((hG2.trans hG3).trans hG4)⟩
    refine rg <| ?_
    refine vl (lsO hK Ty.a39 Ty.s39 0 rfl rfl rfl) <| ?_
    refine soS hK Ty.i39 1 rfl rfl rfl rfl (WdS.one hW3) rfl ?_
    intro w hK
    refine nl <| thn <| rt <| pg1r (rvS hK Ty.a39 Ty.s39 1 rfl rfl rfl) <| ?_
    exact ⟨G4, _, rs2, ((hG1.trans hG2).trans hG3).trans hG4, rfl, by rw [calF_yes hd]; exact hW3, hK.drop1.drop1.drop1⟩
  ·refine vl (ldO hK Ty.o3 0 rfl rfl rfl) <| ?_
   refine xnk (K.sl hK) fun hS => ?_
   refine xt (i := 5) rfl kr rfl rfl (fun w hK => (ad rfl rfl)) hS <| xt (i := 6) rfl kr rfl rfl (fun w hK => (mn rfl rfl)) hS <| ?_
   refine xe (i := 1) kr rfl rfl ?_
   refine vl (ldO hK Ty.o32 0 rfl rfl rfl) <| ?_
   refine xnk (K.sl hK) fun hS => ?_
   refine xe (i := 2) kr rfl rfl ?_
   refine cl call69 rfl (l3Ids_c hK hv2 om) ?_
   rintro u w ⟨A3, ho3, hK⟩
   obtain ⟨G3, hG3, hu3, hK⟩ := K.pubO hK ho3
   refine xnk ((K.vle (K.sl hK) hG3)) fun hS => ?_
   refine xe (i := 7) kr rfl rfl ?_
   refine cl call35 rfl (l51Leases_c hK hu3 (by rw [ids_len, rg_len]; omega)) ?_
   rintro l w ⟨A4, ho4, hK⟩
   obtain ⟨G4, hG4, hl, hK⟩ := K.pubE (c := lc) (xs := (ids (rgl rs2)).map fun i => (i, i, min (min (W.now + 20 + 1) 999 + 20) 999)) (fun _ => rfl) hK (by rw [List.length_map]; exact ho4)
   rw [hr2, ids_idl, hW.rg] at hl
   refine xnk ((K.vle (K.sl hK) (hG3.trans hG4))) fun hS => ?_
   refine xt (i := 8) rfl kr rfl rfl (fun w hK => (fa underlying39 rfl Ty.z33 rfl)) hS <| ?_
   refine xe (i := 9) kr rfl rfl ?_
   refine so hK Ty.i33 rfl 0 rfl rfl rfl hl.1.one rfl ?_
   intro w hK
   refine xnk ((K.vle (K.sl hK) (hG3.trans hG4))) fun hS => ?_
   refine xd kr <| thn <| sq <| ?_
   replace hK : K e w G4 ((b3, row (wc ⟨min (W.now + 20 + 1) 999, v2, l, W1.i, W1.next, W1.t, W1.s⟩) 39) :: (b2, row [.int .i64 0, .slice none 0 0, .slice none 0 0, .slice none 0 0, .int .i64 0, .slice none 0 0, .slice none 0 0] 39) :: (b1, row (wc W) 39) :: L) := hK
   have e1 : min (W.now + 20 + 1) 999 = calN wd.now := by unfold calN; rw [hnw]; congr 1; omega
   have hW3 : WdS G4 lc ⟨min (W.now + 20 + 1) 999, v2, l, W1.i, W1.next, W1.t, W1.s⟩ (calW wd) rs2 :=
    ⟨e1, hv2.mono (hG3.trans hG4), by rw [hr2, hW.rg]; rfl, by rw [e1] at hl; exact hl, EF.mono hW1.items ((hG2.trans hG3).trans hG4), hW1.next, hW1.told.mono ((hG2.trans hG3).trans hG4), hW1.since.mono ((hG2.trans hG3).trans hG4)⟩
   refine rg <| ?_
   refine vl (lsO hK Ty.a39 Ty.s39 0 rfl rfl rfl) <| ?_
   refine soS hK Ty.i39 1 rfl rfl rfl rfl (WdS.one hW3) rfl ?_
   intro w hK
   refine nl <| thn <| rt <| pg1r (rvS hK Ty.a39 Ty.s39 1 rfl rfl rfl) <| ?_
   exact ⟨G4, _, rs2, ((hG1.trans hG2).trans hG3).trans hG4, rfl, by rw [calF_yes hd]; exact hW3, hK.drop1.drop1.drop1⟩
end
open Go Go.Ro Tryz
section
variable {e w : World} {G : View} {L A : Own} {v u : Value} {n k : Int} {m : Nat}
theorem dd_len {m : Nat} (h : m ≤ 9999999999) : (Lib.decDigits m).length ≤ 10 := by
 rw [Lib.decDigits_length]
 have : ∀ k u : Nat, u < 10 ^ k → Lib.nDigits u ≤ max k 1 := by
  intro k
  induction k with
  | zero => intro u hu; rw [Lib.nDigits_small (by omega)]; omega
  | succ k ih =>
   intro u hu
   by_cases h10 : u < 10
   ·rw [Lib.nDigits_small h10]; omega
   ·rw [Lib.nDigits_big h10]
    have h1 := ih (u / 10) (by rw [Nat.pow_succ] at hu; omega)
    rcases Nat.eq_zero_or_pos k with hk | hk
    ·subst hk; simp at hu; omega
    ·omega
 have := this 10 m (by omega)
 omega
theorem dd_step {m : Nat} (h : ¬ m < 10) : Lib.decDigits m = Lib.decDigits (m / 10) ++ [UInt8.ofNat (48 + ((m % 10 : Nat) : Int)).toNat] := by
 rw [Lib.decDigits, dif_neg h]; rfl
theorem l6DecN1 (m : Nat) (ih : ∀ k : Nat, k < m → ∀ {w : World} {L : Own}, K e w G L → Ret prog 43 #[.int .i64 (k : Int)] w (fun r w' => r = Sv (Lib.decDigits k) ∧ K e w' G L)) (hm : m ≤ 1000000) (hK : K e w G L) :
  Ret prog 43 #[.int .i64 (m : Int)] w (fun r w' => r = Sv (Lib.decDigits m) ∧ K e w' G L) := by
 refine enter1 (args := [.int .i64 (m : Int)]) func43 rfl rfl rfl rfl ?_
 refine sq <| rg <| ?_
 refine vl asg <| nl <| thn <| sq <| sq <| rg <| vl (mI rfl) <| vl (lt rfl rfl) <| nl <| thn <| ?_
 refine cdP rfl (fun h1 => ?_) fun h1 => ?_
 ·exfalso; omega
 ·refine sk <| thn <| sq <| sq <| rg <| ?_
  refine vl (mI rfl) <| vl (lt rfl rfl) <| nl <| thn <| ?_
  refine cdP rfl (fun h2 => ?_) fun h2 => ?_
  ·exfalso; omega
  ·refine sk <| thn <| sq <| sq <| rg <| ?_
   refine vl (mI rfl) <| vl (lt rfl rfl) <| nl <| thn <| ?_
   refine cdP rfl (fun h3 => ?_) fun h3 => ?_
   ·skip
    refine sq <| rg <| ?_
    refine vl (mI rfl) <| vl (ad rfl rfl) <| vl (c8 underlying3 underlying5 rfl om om) <| ?_
    refine bsN [.tmp 15] hK underlying22 Ty.i5 rfl rfl rfl rfl rfl rfl rfl rfl ?_
    intro b16 w hK
    refine vl (b2s1 underlying22 underlying9 underlying5 rfl (row_cell (l := [_]) (hK.own _ _ (List.mem_cons_self ..)))) <| vl asg <| nl <| thn <| rt <| thr <| p1r (a := _) rfl <| ?_
    exact ⟨by rw [Lib.decDigits_one (by omega)]; congr 3, hK.drop1⟩
   ·have hl : (Lib.decDigits (m / 10)).length ≤ 10 := dd_len (by omega)
    have hst : Lib.decDigits (m / 10) ++ [UInt8.ofNat (48 + ((m % 10 : Nat) : Int)).toNat] = Lib.decDigits m := (dd_step (by omega)).symm
    refine sk <| thn <| sq <| ?_
    refine rgs (fun w => K e w G L) (fun w => K _ w _ _) [U,U,U,U,U,U,U,U,U,U,U] 11 Ty.mixed rfl rfl (hK.drawn _) ?_
    intro w hK
    have hS : (fun w => K e w G L) w := K.sl hK
    refine xt (i := 0) rfl kr rfl rfl (fun w hK => (mI rfl)) hS <| xt (i := 1) rfl kr rfl rfl (fun w hK => (quN (a := m) (k := 10) rfl rfl om om)) hS <| xt (i := 3) rfl kr rfl rfl (fun w hK => (mI rfl)) hS <| xt (i := 4) rfl kr rfl rfl (fun w hK => (rmN (a := m) (k := 10) rfl rfl om)) hS <| xt (i := 5) rfl kr rfl rfl (fun w hK => (ad rfl rfl)) hS <| xt (i := 6) rfl kr rfl rfl (fun w hK => (c8 underlying3 underlying5 rfl om om)) hS <| ?_
    refine xe2 (i := 2) (j := 7) kr rfl rfl rfl rfl ?_ ?_
    ·skip
     refine cl call43 rfl (ih (m / 10) om hK) ?_
     rintro _ w ⟨rfl, hK⟩
     refine xnk (K.sl hK) fun hS => ?_
     refine xe (i := 7) kr rfl rfl ?_
     refine bsN [.tmp 24] hK underlying22 Ty.i5 rfl rfl rfl rfl rfl rfl rfl rfl ?_
     intro b25 w hK
     refine xnk (K.sl hK) fun hS => ?_
     refine xe (i := 8) kr rfl rfl ?_
     refine vl (b2s1 underlying22 underlying9 underlying5 rfl (row_cell (l := [_]) (hK.own _ _ (List.mem_cons_self ..)))) <| ?_
     refine xnk (K.sl hK) fun hS => ?_
     refine xt (i := 9) rfl kr rfl rfl (fun w hK => (sad rfl rfl (by first | omega | (simp; omega)))) hS <| xt (i := 10) rfl kr rfl rfl (fun w hK => asg) hS <| xd kr <| thn <| rt <| p1r (a := _) rfl <| ?_
     exact ⟨congrArg Sv hst, hK.drop1⟩
    ·refine bsN [.tmp 24] hK underlying22 Ty.i5 rfl rfl rfl rfl rfl rfl rfl rfl ?_
     intro b25 w hK
     refine xnk (K.sl hK) fun hS => ?_
     refine xe2 (i := 2) (j := 8) kr rfl rfl rfl rfl ?_ ?_
     ·skip
      refine cl call43 rfl (ih (m / 10) om hK) ?_
      rintro _ w ⟨rfl, hK⟩
      refine xnk (K.sl hK) fun hS => ?_
      refine xe (i := 8) kr rfl rfl ?_
      refine vl (b2s1 underlying22 underlying9 underlying5 rfl (row_cell (l := [_]) (hK.own _ _ (List.mem_cons_self ..)))) <| ?_
      refine xnk (K.sl hK) fun hS => ?_
      refine xt (i := 9) rfl kr rfl rfl (fun w hK => (sad rfl rfl (by first | omega | (simp; omega)))) hS <| xt (i := 10) rfl kr rfl rfl (fun w hK => asg) hS <| xd kr <| thn <| rt <| p1r (a := _) rfl <| ?_
      exact ⟨congrArg Sv hst, hK.drop1⟩
     ·refine vl (b2s1 underlying22 underlying9 underlying5 rfl (row_cell (l := [_]) (hK.own _ _ (List.mem_cons_self ..)))) <| ?_
      refine xnk (K.sl hK) fun hS => ?_
      refine xe (i := 2) kr rfl rfl ?_
      refine cl call43 rfl (ih (m / 10) om hK) ?_
      rintro _ w ⟨rfl, hK⟩
      refine xnk (K.sl hK) fun hS => ?_
      refine xt (i := 9) rfl kr rfl rfl (fun w hK => (sad rfl rfl (by first | omega | (simp; omega)))) hS <| xt (i := 10) rfl kr rfl rfl (fun w hK => asg) hS <| xd kr <| thn <| rt <| p1r (a := _) rfl <| ?_
      exact ⟨congrArg Sv hst, hK.drop1⟩
theorem l6DecN : ∀ (m : Nat), m ≤ 1000000 → ∀ {w : World} {L : Own}, K e w G L → Ret prog 43 #[.int .i64 (m : Int)] w (fun r w' => r = Sv (Lib.decDigits m) ∧ K e w' G L) := by
 intro m
 induction m using Nat.strongRecOn with
 | ind m ih =>
  intro hm w L hK
  exact l6DecN1 m (fun k hk => ih k hk (by omega)) hm hK
theorem l6Dec_c (h0 : -1000000 ≤ n) (h1 : n ≤ 1000000) (hK : K e w G L) : Ret prog 43 #[.int .i64 n] w (fun r w' => r = Sv (Lib.itoa n) ∧ K e w' G L) := by
 by_cases hn : 0 ≤ n
 ·obtain ⟨m, rfl⟩ := Int.eq_ofNat_of_zero_le hn
  refine (l6DecN m (by omega) hK).mono fun r w' ⟨h, hK⟩ => ⟨?_, hK⟩
  rw [h]; unfold Lib.itoa; rw [if_neg (by omega)]; rfl
 ·obtain ⟨m, hm⟩ := Int.eq_ofNat_of_zero_le (show 0 ≤ -n by omega)
  obtain rfl : n = -(m : Int) := by omega
  have hl : (Lib.decDigits m).length ≤ 10 := dd_len (by omega)
  refine enter1 (args := [.int .i64 (-(m : Int))]) func43 rfl rfl rfl rfl ?_
  refine sq <| rg <| ?_
  refine vl asg <| nl <| thn <| sq <| sq <| rg <| vl (mI rfl) <| vl (lt rfl rfl) <| nl <| thn <| ?_
  refine cdP rfl (fun h1 => ?_) fun h1 => ?_
  ·exfalso; omega
  ·refine sk <| thn <| sq <| sq <| rg <| ?_
   refine vl (mI rfl) <| vl (lt rfl rfl) <| nl <| thn <| ?_
   refine cdP rfl (fun h2 => ?_) fun h2 => ?_
   ·refine sq <| rg <| ?_
    refine vl (mI rfl) <| vl (ngn rfl om) <| ?_
    refine cl call43 rfl (l6DecN m om hK) ?_
    rintro _ w ⟨rfl, hK⟩
    refine vl (sad rfl rfl (by first | omega | (simp; omega))) <| vl asg <| nl <| thn <| rt <| thr <| p1r (a := _) rfl <| ?_
    exact ⟨congrArg Sv (by unfold Lib.itoa; rw [if_pos (by omega)]; simp), hK⟩
   ·exfalso; omega
end
open Go Go.Ro Tryz
section
variable {e w : World} {G : View} {L A : Own} {v u : Value} {n k : Int} {m : Nat} {l : List UInt8}
theorem l61Cut_c {c : UInt8} (hl : l.length ≤ 100000) (hK : K e w G L) : Ret prog 22 #[Sv l, .int .u8 (c.toNat : Int)] w (fun r w' => ∃ A, OS 1 9 r (ctL c l).length ((ctL c l).flatMap sc) A ∧ K e w' G (A ++ L)) := by
 refine enter1 (args := [Sv l, .int .u8 (c.toNat : Int)]) func22 rfl rfl rfl rfl ?_
 refine sq <| rg <| ?_
 refine vl asg <| nl <| thn <| sq <| rg <| ?_
 refine bs0 hK underlying47 Ty.i9 ?_
 intro b8 w hK
 refine vl asg <| nl <| thn <| sq <| rg <| vl (aI rfl) <| nl <| thn <| sq <| sq <| rg <| vl (aI rfl) <| nl <| thn <| bk <| ?_
 refine lp (σ := Nat × Nat × List (List UInt8) × Value × Own) (fun s => [(0, Sv l), (1, .int .u8 (c.toNat : Int)), (5, s.2.2.2.1), (6, .int .i64 (s.2.1 : Int)), (7, .int .i64 (s.1 : Int))]) (fun s w => s.1 ≤ l.length ∧ s.2.1 ≤ s.1 ∧ s.2.2.1 ++ ctA c ((l.take s.1).drop s.2.1) (l.drop s.1) = ctL c l ∧ s.2.2.1.length ≤ s.1 ∧ OS 1 9 s.2.2.2.1 s.2.2.1.length (s.2.2.1.flatMap sc) s.2.2.2.2 ∧ K e w G (s.2.2.2.2 ++ L)) (fun s => l.length - s.1) (0, 0, [], .slice (some ⟨b8, 0, none⟩) 0 0, [(b8, row [] 9)]) ⟨rfl, rfl, rfl, rfl, rfl, trivial⟩ ⟨Nat.zero_le _, Nat.le_refl _, rfl, Nat.le_refl _, OS.none, hK⟩ ?_
 clear hK
 rintro ⟨i, a, os, u, A⟩ g w ⟨hi, ha, he, hos, ho, hK⟩
 simp only at hi ha he hos ho hK
 refine sq <| sq <| rg <| ?_
 refine vl (mI rfl) <| vl mv <| vl (sln underlying9 rfl) <| vl (lt rfl rfl) <| nl <| thn <| ?_
 refine cdP rfl (fun hc => ?_) fun hc => ?_
 ·have hi' : i < l.length := by simp only at hc; omega
  refine sk <| thn <| sq <| bk <| sq <| rg <| ?_
  refine vl mv <| vl (mI rfl) <| vl (six underlying9 rfl rfl om) <| vl (mI rfl) <| vl (eq rfl rfl) <| nl <| thn <| ?_
  refine cdP rfl (fun hx => ?_) fun hx => ?_
  ·have hx' := u8eq hx
   refine sq <| rg <| ?_
   refine vl mv <| vl mv <| vl (mI rfl) <| vl (mI rfl) <| vl (ssl underlying9 rfl rfl rfl om om) <| ?_
   refine bsN [.tmp 24] hK underlying47 Ty.i9 rfl rfl rfl rfl rfl rfl rfl rfl ?_
   intro b25 w hK
   refine apE1 (c := sc) (k := (l.take i).drop a) (fun _ => rfl) rfl hK underlying47 Ty.i9 rfl rfl rfl ho rfl om fun v' A' w ho hK => ?_
   refine vl asg <| nl <| thn <| rg <| vl (mI rfl) <| vl (ad rfl rfl) <| vl (aI rfl) <| nl <| bkn <| thn <| rg <| vl (mI rfl) <| vl (ad rfl rfl) <| vl (aI rfl) <| nl <| thn <| ?_
   exact ⟨(i + 1, i + 1, os ++ [(l.take i).drop a], v', A'), ⟨rfl, rfl, rfl, rfl, rfl, trivial⟩, ⟨hi', Nat.le_refl _, by rw [← he, cut_yes hi' hx', List.append_assoc]; rfl, by simp; omega, ho, hK⟩, by simp only; omega⟩
  ·have hx' : ¬ l[i] = c := fun h => hx (by rw [h])
   refine sk <| bkn <| thn <| rg <| ?_
   refine vl (mI rfl) <| vl (ad rfl rfl) <| vl (aI rfl) <| nl <| thn <| ?_
   exact ⟨(i + 1, a, os, u, A), ⟨rfl, rfl, rfl, rfl, rfl, trivial⟩, ⟨hi', by simp only; omega, by rw [← he, cut_no hi' ha hx'], by simp only; omega, ho, hK⟩, by simp only; omega⟩
 ·have hi' : i = l.length := by simp only at hc; omega
  subst hi'
  rw [List.take_length, List.drop_length] at he
  refine ex <| the <| the <| bkh <| thn <| sq <| rg <| ?_
  refine vl mv <| vl mv <| vl (mI rfl) <| vl (sslT underlying9 rfl rfl om) <| ?_
  refine bsN [.tmp 32] hK underlying47 Ty.i9 rfl rfl rfl rfl rfl rfl rfl rfl ?_
  intro b33 w hK
  refine apE1 (c := sc) (k := l.drop a) (fun _ => rfl) rfl hK underlying47 Ty.i9 rfl rfl rfl ho rfl om fun v' A' w ho hK => ?_
  refine vl asg <| nl <| thn <| rt <| p1r (a := _) rfl <| ?_
  have he' : os ++ [l.drop a] = ctL c l := he
  rw [he'] at ho
  exact ⟨A', ho, hK⟩
end
end Go.Proofs.YtbiihblpgfgaoabGreatDoor
