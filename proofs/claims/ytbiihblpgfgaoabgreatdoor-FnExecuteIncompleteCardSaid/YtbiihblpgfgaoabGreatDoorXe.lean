/- Contracts of functions on strings: the specification's lines and scripts. Conditions: those that each row states. -/
import Derived.Test.YtbiihblpgfgaoabGreatDoorXd
import Derived.Test.YtbiihblpgfgaoabGreatDoorDw
namespace Go.Proofs.YtbiihblpgfgaoabGreatDoor
open Go Go.Ro Tryz
section
variable {e w : World} {G : View} {L A : Own} {v u cva : Value} {xs code : List Int} {rs qs : List Rn} {W W' : Wv} {wd wd' : Wd} {k : Int} {l : List UInt8} {ws : List (List UInt8)}
theorem ownF_eq {wd : Wd} {k n : Int} (hd : WdOk wd) (h1 : WdOk wd → Pt k → n = own wd k) (h2 : ¬ Pt k → n = -1) : n = ownF wd k := by
 unfold ownF
 by_cases h : Pt k
 ·rw [if_pos h]; exact h1 hd h
 ·rw [if_neg h]; exact h2 h
theorem lnH_ev {w : Wd} {ws : List (List UInt8)} {h : List UInt8} (h0 : 0 < kdL h) : lnH w ws h = (doW w (kdL h) (numL ws 1) (numL ws 2) (numL ws 3), []) := if_pos h0
theorem lnH_calm {w : Wd} {ws : List (List UInt8)} {h : List UInt8} (h0 : ¬ 0 < kdL h) (h1 : h = nmCalm) : lnH w ws h = (calF w, []) := by
 unfold lnH; rw [if_neg h0, if_pos h1]
theorem lnH_ring {w : Wd} {ws : List (List UInt8)} {h : List UInt8} (h0 : ¬ 0 < kdL h) (h1 : ¬ h = nmCalm) (h2 : h = nmRing) : lnH w ws h = (w, rgT w.ring) := by
 unfold lnH; rw [if_neg h0, if_neg h1, if_pos h2]
theorem lnH_leases {w : Wd} {ws : List (List UInt8)} {h : List UInt8} (h0 : ¬ 0 < kdL h) (h1 : ¬ h = nmCalm) (h2 : ¬ h = nmRing) (h3 : h = nmLeases) : lnH w ws h = (w, lsT w.leases) := by
 unfold lnH; rw [if_neg h0, if_neg h1, if_neg h2, if_pos h3]
theorem lnH_owner {w : Wd} {ws : List (List UInt8)} {h : List UInt8} (h0 : ¬ 0 < kdL h) (h1 : ¬ h = nmCalm) (h2 : ¬ h = nmRing) (h3 : ¬ h = nmLeases) (h4 : h = nmOwner) : lnH w ws h = (w, num (ownF w (numL ws 1)) ++ [10]) := by
 unfold lnH; rw [if_neg h0, if_neg h1, if_neg h2, if_neg h3, if_pos h4]
theorem lnH_what {w : Wd} {ws : List (List UInt8)} {h : List UInt8} (h0 : ¬ 0 < kdL h) (h1 : ¬ h = nmCalm) (h2 : ¬ h = nmRing) (h3 : ¬ h = nmLeases) (h4 : ¬ h = nmOwner) : lnH w ws h = (w, tWhat ++ [10]) := by
 unfold lnH; rw [if_neg h0, if_neg h1, if_neg h2, if_neg h3, if_neg h4]
theorem ct_cons (c : UInt8) (l : List UInt8) : ∃ h ws, ctL c l = h :: ws := by
 have := (ctA_len c l []).2
 unfold ctL
 cases h : ctA c [] l with
 | nil => rw [h] at this; simp at this
 | cons x xs => exact ⟨x, xs, rfl⟩
set_option maxHeartbeats 4000000 in
theorem l61Line_c (hK : K e w G L) (hW : WdS G lc W wd rs) (hok : WdOk wd) (hl : l.length ≤ 100000) :
  Ret prog 23 #[.agg (wc W).toArray, Sv l] w (fun r w' => ∃ G' W' rs', VLe G G' ∧ r = .tuple #[.agg (wc W').toArray, Sv (lnW wd l).2] ∧ WdS G' lc W' (lnW wd l).1 rs' ∧ K e w' G' L) := by
 obtain ⟨h, ws, hct⟩ := ct_cons 32 l
 rw [lnW_H hct]
 obtain ⟨r1, r2, hr⟩ : ∃ r1 r2, lnH wd (h :: ws) h = (r1, r2) := ⟨_, _, rfl⟩
 rw [hr]
 simp only
 have hzl := hok.wda.zl
 refine enterG2 (args := [.agg (wc W).toArray, Sv l]) func23 rfl rfl rfl rfl ?_
 refine sq <| rg <| ?_
 refine bx hK rfl rfl ?_
 intro b2 w hK
 refine al hK Ty.i39 rfl ?_
 intro b4 w hK
 refine vl asg <| nl <| thn <| sq <| rg <| vl mv <| ?_
 refine cl call22 rfl (l61Cut_c (c := 32) hl hK) ?_
 rintro v w ⟨A, ho, hK⟩
 rw [hct] at ho
 obtain ⟨G1, hG1, hv, hK⟩ := K.pubE (c := sc) (fun _ => rfl) hK ho
 have hwl : 0 < (h :: ws).length := Nat.succ_pos _
 have hc0 : cellV G1 (elA v 0) = some (Sv h) := StrS.cell hv (i := 0) (by simp)
 refine vl asg <| nl <| thn <| sq <| rg <| vl mv <| vl (ixm1 (m := 0) underlying47 Ty.s9 rfl hv.1 rfl om om) <| vl (ldV hK Ty.o9 rfl hc0) <| ?_
 refine cl call37 rfl (l61Kind_c hK) ?_
 rintro _ w ⟨rfl, G2, hG2, hK⟩
 replace hv := EF.mono hv hG2
 replace hc0 := cellV.mono hG2 hc0
 have hW2 := hW.mono (hG1.trans hG2)
 have hG := hG1.trans hG2
 clear hG1 hG2 hW
 refine vl mv <| ?_
 refine cl call38 rfl (l61Num_c (k := 1) hK hv) ?_
 rintro _ w ⟨rfl, hK⟩
 refine vl mv <| ?_
 refine cl call38 rfl (l61Num_c (k := 2) hK hv) ?_
 rintro _ w ⟨rfl, hK⟩
 refine vl mv <| ?_
 refine cl call38 rfl (l61Num_c (k := 3) hK hv) ?_
 rintro _ w ⟨rfl, hK⟩
 refine vl (bd [(0, _), (1, _), (2, _), (3, _)] Ty.p78 Ty.i78 rfl ⟨⟨rfl, rfl⟩, ⟨rfl, rfl⟩, ⟨rfl, rfl⟩, ⟨rfl, rfl⟩, trivial⟩ rfl) <| ?_
 refine al hK Ty.i78 rfl ?_
 intro b7 w hK
 refine soS hK Ty.i78 0 rfl rfl rfl rfl rfl rfl ?_
 intro w hK
 refine nl <| thn <| sq <| bk <| sq <| rg <| vl (fa underlying78 rfl Ty.z3 rfl) <| vl (ldO hK Ty.o3 0 rfl rfl rfl) <| vl (gt rfl rfl) <| vl (aB rfl) <| nl <| thn <| ?_
 replace hK : K e w G2 ((b7, row (ec (kdL h) (numL (h :: ws) 1) (numL (h :: ws) 2) (numL (h :: ws) 3)) 78) :: (b4, row [.int .i64 0, .slice none 0 0, .slice none 0 0, .slice none 0 0, .int .i64 0, .slice none 0 0, .slice none 0 0] 39) :: (b2, row (wc W) 39) :: L) := hK
 refine cdP rfl (fun h0 => ?_) fun h0 => ?_
 ·have he := Prod.mk.inj (hr.symm.trans (lnH_ev h0))
  refine sq <| rg <| ?_
  refine vl (lsO hK Ty.a39 Ty.s39 2 rfl rfl rfl) <| vl (lsO hK Ty.a78 Ty.s78 0 rfl rfl rfl) <| ?_
  refine cl call39 rfl (l51Do_c hK hW2 hok.wda) ?_
  rintro _ w ⟨G3, W3, q3, hG3, rfl, hW3, hK⟩
  refine soS hK Ty.i39 1 rfl rfl rfl rfl (WdS.one hW3) rfl ?_
  intro w hK
  refine vl asg <| nl <| thn <| rt <| bkr <| thr <| pg2r (rvS hK Ty.a39 Ty.s39 1 rfl rfl rfl) (rvT (v := _) rfl) <| ?_
  exact ⟨G3, W3, q3, hG.trans hG3, congrArg (fun z => Value.tuple #[.agg (wc W3).toArray, Sv z]) he.2.symm, (by rw [he.1]; exact hW3), hK.drop1.drop1.drop1⟩
 ·have h0' : ¬ 0 < kdL h := h0
  refine sq <| rg <| ?_
  refine vl mv <| vl (ixm1 (m := 0) underlying47 Ty.s9 rfl hv.1 rfl om om) <| vl (ldV hK Ty.o9 rfl hc0) <| vl (seqE rfl rfl) <| vl (aB rfl) <| nl <| thn <| ?_
  refine cdP rfl (fun h1 => ?_) fun h1 => ?_
  ·have he := Prod.mk.inj (hr.symm.trans (lnH_calm h0' h1))
   refine sq <| rg <| ?_
   refine vl (lsO hK Ty.a39 Ty.s39 2 rfl rfl rfl) <| ?_
   refine cl call40 rfl (specWorldCalm_c hK hW2 om) ?_
   rintro _ w ⟨G3, W3, q3, hG3, rfl, hW3, hK⟩
   refine soS hK Ty.i39 1 rfl rfl rfl rfl (WdS.one hW3) rfl ?_
   intro w hK
   refine vl asg <| nl <| thn <| rt <| bkr <| thr <| pg2r (rvS hK Ty.a39 Ty.s39 1 rfl rfl rfl) (rvT (v := _) rfl) <| ?_
   exact ⟨G3, W3, q3, hG.trans hG3, congrArg (fun z => Value.tuple #[.agg (wc W3).toArray, Sv z]) he.2.symm, (by rw [he.1]; exact hW3), hK.drop1.drop1.drop1⟩
  ·refine sq <| rg <| ?_
   refine vl mv <| vl (ixm1 (m := 0) underlying47 Ty.s9 rfl hv.1 rfl om om) <| vl (ldV hK Ty.o9 rfl hc0) <| vl (seqE rfl rfl) <| vl (aB rfl) <| nl <| thn <| ?_
   refine cdP rfl (fun h2 => ?_) fun h2 => ?_
   ·have he := Prod.mk.inj (hr.symm.trans (lnH_ring h0' h1 h2))
    refine sq <| ?_
    refine rgs (fun w => K e w G2 ((b2, row (wc W) 39) :: L)) (fun w => K _ w _ _) [U,U,U,U,U] 5 Ty.mixed rfl rfl (hK.drawn _) ?_
    intro w hK
    have hS : (fun w => K e w G2 ((b2, row (wc W) 39) :: L)) w := K.sl hK
    refine xt (i := 0) rfl kr rfl rfl (fun w hK => (lsO hK Ty.a39 Ty.s39 0 rfl rfl rfl)) hS <| xt (i := 1) rfl kr rfl rfl (fun w hK => (lsO hK Ty.a39 Ty.s39 0 rfl rfl rfl)) hS <| ?_
    refine xe (i := 2) kr rfl rfl ?_
    refine cl call41 rfl (l61Ring_c hK hW2 hok.2.1.1) ?_
    rintro _ w ⟨rfl, hK⟩
    refine xnk (K.sl hK) fun hS => ?_
    refine xe (i := 3) kr rfl rfl ?_
    refine soS hK Ty.i39 1 rfl rfl rfl rfl (WdS.one hW2) rfl ?_
    intro w hK
    refine xnk (K.sl hK) fun hS => ?_
    refine xt (i := 4) rfl kr rfl rfl (fun w hK => asg) hS <| xd kr <| thn <| rt <| bkr <| thr <| pg2r (rvS hK Ty.a39 Ty.s39 1 rfl rfl rfl) (rvT (v := _) rfl) <| ?_
    exact ⟨G2, W, rs, hG, congrArg (fun z => Value.tuple #[.agg (wc W).toArray, Sv z]) he.2.symm, (by rw [he.1]; exact hW2), hK.drop1.drop1.drop1⟩
   ·refine sq <| rg <| ?_
    refine vl mv <| vl (ixm1 (m := 0) underlying47 Ty.s9 rfl hv.1 rfl om om) <| vl (ldV hK Ty.o9 rfl hc0) <| vl (seqE rfl rfl) <| vl (aB rfl) <| nl <| thn <| ?_
    refine cdP rfl (fun h3 => ?_) fun h3 => ?_
    ·have he := Prod.mk.inj (hr.symm.trans (lnH_leases h0' h1 h2 h3))
     refine sq <| ?_
     refine rgs (fun w => K e w G2 ((b2, row (wc W) 39) :: L)) (fun w => K _ w _ _) [U,U,U,U,U] 5 Ty.mixed rfl rfl (hK.drawn _) ?_
     intro w hK
     have hS : (fun w => K e w G2 ((b2, row (wc W) 39) :: L)) w := K.sl hK
     refine xt (i := 0) rfl kr rfl rfl (fun w hK => (lsO hK Ty.a39 Ty.s39 0 rfl rfl rfl)) hS <| xt (i := 1) rfl kr rfl rfl (fun w hK => (lsO hK Ty.a39 Ty.s39 0 rfl rfl rfl)) hS <| ?_
     refine xe (i := 2) kr rfl rfl ?_
     refine cl call42 rfl (l61Leases_c hK hW2 hok.2.2.1) ?_
     rintro _ w ⟨rfl, hK⟩
     refine xnk (K.sl hK) fun hS => ?_
     refine xe (i := 3) kr rfl rfl ?_
     refine soS hK Ty.i39 1 rfl rfl rfl rfl (WdS.one hW2) rfl ?_
     intro w hK
     refine xnk (K.sl hK) fun hS => ?_
     refine xt (i := 4) rfl kr rfl rfl (fun w hK => asg) hS <| xd kr <| thn <| rt <| bkr <| thr <| pg2r (rvS hK Ty.a39 Ty.s39 1 rfl rfl rfl) (rvT (v := _) rfl) <| ?_
     exact ⟨G2, W, rs, hG, congrArg (fun z => Value.tuple #[.agg (wc W).toArray, Sv z]) he.2.symm, (by rw [he.1]; exact hW2), hK.drop1.drop1.drop1⟩
    ·refine sq <| rg <| ?_
     refine vl mv <| vl (ixm1 (m := 0) underlying47 Ty.s9 rfl hv.1 rfl om om) <| vl (ldV hK Ty.o9 rfl hc0) <| vl (seqE rfl rfl) <| vl (aB rfl) <| nl <| thn <| ?_
     refine cdP rfl (fun h4 => ?_) fun h4 => ?_
     ·have he := Prod.mk.inj (hr.symm.trans (lnH_owner h0' h1 h2 h3 h4))
      obtain ⟨o, hoe⟩ : ∃ o, ownF wd (numL (h :: ws) 1) = o := ⟨_, rfl⟩
      have hbd := ownF_bd hok (numL (h :: ws) 1)
      rw [hoe] at hbd he
      clear h0 h0'
      have hlo : -1000000 ≤ o := Int.le_trans (by decide) hbd.1
      have hhi : o ≤ 1000000 := Int.le_trans hbd.2 (by decide)
      have nl := num_len hlo hhi
      refine sq <| ?_
      refine rgs (fun w => K e w G2 ((b7, row (ec (kdL h) (numL (h :: ws) 1) (numL (h :: ws) 2) (numL (h :: ws) 3)) 78) :: (b2, row (wc W) 39) :: L)) (fun w => K _ w _ _) [U,U,U,U,U,U,U,U,U] 9 Ty.mixed rfl rfl (hK.drawn _) ?_
      intro w hK
      have hS : (fun w => K e w G2 ((b7, row (ec (kdL h) (numL (h :: ws) 1) (numL (h :: ws) 2) (numL (h :: ws) 3)) 78) :: (b2, row (wc W) 39) :: L)) w := K.sl hK
      refine xt (i := 0) rfl kr rfl rfl (fun w hK => (lsO hK Ty.a39 Ty.s39 1 rfl rfl rfl)) hS <| xt (i := 1) rfl kr rfl rfl (fun w hK => (lsO hK Ty.a39 Ty.s39 1 rfl rfl rfl)) hS <| xt (i := 2) rfl kr rfl rfl (fun w hK => (fa underlying78 rfl Ty.z3 rfl)) hS <| xt (i := 3) rfl kr rfl rfl (fun w hK => (ldO hK Ty.o3 0 rfl rfl rfl)) hS <| ?_
      refine xe (i := 4) kr rfl rfl ?_
      refine cl call44 rfl (specWorldOwner_c hK hW2 (Nat.le_trans hzl (by decide))) ?_
      rintro _ w ⟨⟨n, rfl, _, hn1, hn2⟩, hK⟩
      obtain rfl : n = o := (ownF_eq hok hn1 hn2).trans hoe
      refine xnk (K.sl hK) fun hS => ?_
      refine xe (i := 5) kr rfl rfl ?_
      refine cl call43 rfl (l6Num_c hlo hhi hK) ?_
      rintro _ w ⟨rfl, hK⟩
      refine xnk (K.sl hK) fun hS => ?_
      refine xt (i := 6) rfl kr rfl rfl (fun w hK => (sad rfl rfl (Nat.le_trans (Nat.add_le_add_right nl 1) (by decide)))) hS <| ?_
      refine xe (i := 7) kr rfl rfl ?_
      refine soS hK Ty.i39 1 rfl rfl rfl rfl (WdS.one hW2) rfl ?_
      intro w hK
      refine xnk (K.sl hK) fun hS => ?_
      refine xt (i := 8) rfl kr rfl rfl (fun w hK => asg) hS <| xd kr <| thn <| rt <| bkr <| thr <| pg2r (rvS hK Ty.a39 Ty.s39 1 rfl rfl rfl) (rvT (v := _) rfl) <| ?_
      exact ⟨G2, W, rs, hG, congrArg (fun z => Value.tuple #[.agg (wc W).toArray, Sv z]) he.2.symm, (by rw [he.1]; exact hW2), hK.drop1.drop1.drop1⟩
     ·have he := Prod.mk.inj (hr.symm.trans (lnH_what h0' h1 h2 h3 h4))
      refine sk <| bkn <| thn <| sq <| rg <| ?_
      refine vl (lsO hK Ty.a39 Ty.s39 2 rfl rfl rfl) <| ?_
      refine soS hK Ty.i39 1 rfl rfl rfl rfl (WdS.one hW2) rfl ?_
      intro w hK
      refine vl asg <| nl <| thn <| rt <| pg2r (rvS hK Ty.a39 Ty.s39 1 rfl rfl rfl) (rvT (v := _) rfl) <| ?_
      exact ⟨G2, W, rs, hG, congrArg (fun z => Value.tuple #[.agg (wc W).toArray, Sv z]) he.2.symm, (by rw [he.1]; exact hW2), hK.drop1.drop1.drop1⟩
set_option maxHeartbeats 1000000 in
theorem specExecute_c (hK : K e w G L) : Ret prog 9 #[Sv l] w (fun r w' => r = Sv (exT l) ∧ ∃ G', VLe G G' ∧ K e w' G' L) := by
 refine enter1 (args := [Sv l]) func9 rfl rfl rfl rfl ?_
 refine sq <| rg <| ?_
 refine vl asg <| nl <| thn <| sq <| sq <| rg <| vl mv <| vl (sln underlying9 rfl) <| vl (gt rfl rfl) <| nl <| thn <| ?_
 refine cdP rfl (fun h0 => ?_) fun h0 => ?_
 ·refine sq <| rg <| ?_
  refine vl asg <| nl <| thn <| rt <| thr <| p1r (a := _) rfl <| ?_
  exact ⟨by rw [exT_long (by omega)]; rfl, _, VLe.refl _, hK⟩
 ·have hl : l.length ≤ 600 := by omega
  rw [exT_short hl]
  refine sk <| thn <| sq <| rg <| ?_
  refine bsN [.const (.int .i64 5), .const (.int .i64 20), .const (.int .i64 35), .const (.int .i64 50)] hK underlying35 Ty.i3 rfl rfl rfl rfl rfl rfl rfl rfl ?_
  intro b14 w hK
  have hK2 : K e w G ([(b14, row (ints ids0) 3)] ++ L) := hK
  clear hK
  obtain ⟨G1, hG1, hv, hK⟩ := K.pubO (xs := ids0) (v := .slice (some ⟨b14, 0, none⟩) 4 4) hK2 (OS.lit (m := 4) rfl (by decide))
  clear hK2
  refine cl call21 rfl (specWorldNew_c hK hv) ?_
  rintro _ w ⟨G2, W, wd, rs, b, rfl, hG2, hW, hb, hwd, hK⟩
  obtain rfl : b = true := hb.2 ⟨ids0_ok, by decide⟩
  obtain rfl : wd = newW ids0 := hwd
  refine vl mv <| vl (ext rfl rfl) <| vl (ext rfl rfl) <| ?_
  refine al hK Ty.i39 rfl ?_
  intro b3 w hK
  refine soS hK Ty.i39 0 rfl rfl rfl rfl (WdS.one hW) rfl ?_
  intro w hK
  refine vl (aB rfl) <| nl <| thn <| sq <| rg <| vl asg <| nl <| thn <| sq <| rg <| vl mv <| ?_
  replace hK : K e w G2 ((b3, row (wc W) 39) :: L) := hK
  refine cl call22 rfl (l61Cut_c (c := 10) om hK) ?_
  rintro v w ⟨A, ho, hK⟩
  obtain ⟨G3, hG3, hu, hK⟩ := K.pubE (c := sc) (fun _ => rfl) hK ho
  have hlen := ctA_len 10 l []
  have hcl : ctA 10 [] l = ctL 10 l := rfl
  rw [hcl] at hlen
  have hbl : ∀ x ∈ ctL 10 l, x.length ≤ 100000 := fun x hx => by have := ct_piece hx; omega
  rw [List.dropLast_eq_take]
  generalize ctL 10 l = ls at *
  refine vl asg <| nl <| thn <| sq <| sq <| rg <| vl (aI rfl) <| nl <| thn <| bk <| ?_
  refine lp (σ := Nat × View × Wv × List Rn) (fun s => [(3, .pointer (some ⟨b3, 0, none⟩)), (5, Sv (runL (ls.take s.1)).2), (6, v), (7, .int .i64 (s.1 : Int))]) (fun s w => s.1 + 1 ≤ ls.length ∧ VLe G3 s.2.1 ∧ WdS s.2.1 lc s.2.2.1 (runL (ls.take s.1)).1 s.2.2.2 ∧ K e w s.2.1 ((b3, row (wc s.2.2.1) 39) :: L)) (fun s => ls.length - s.1) (0, G3, W, rs) ⟨rfl, rfl, rfl, rfl, trivial⟩ ⟨by omega, VLe.refl _, hW.mono hG3, hK⟩ ?_
  clear hK hW
  rintro ⟨i, G4, W4, q4⟩ g w ⟨hi, hG4, hW4, hK⟩
  simp only at hi hG4 hW4 hK
  have hu4 := EF.mono hu hG4
  refine sq <| sq <| rg <| ?_
  refine vl (mI rfl) <| vl (ad rfl rfl) <| vl mv <| vl (ln underlying47 rfl hu4.len) <| vl (lt rfl rfl) <| nl <| thn <| ?_
  refine cdP rfl (fun hc => ?_) fun hc => ?_
  ·have hi' : i + 1 < ls.length := by simp only at hc; omega
   have hi2 : i < ls.length := by omega
   have hcl := StrS.cell hu4 hi2
   have hok4 := runL_ok (ls.take i)
   have ht := runL_take hi2
   have hl4 := runL_len (ls.take i)
   have hl5 := lnW_len hok4 ls[i]
   rw [List.length_take] at hl4
   refine sk <| thn <| sq <| bk <| sq <| ?_
   refine rgs (fun w => K e w G4 ((b3, row (wc W4) 39) :: L)) (fun w => K _ w _ _) [U,U,U,U,U,U,U,U,U,U,U,U] 12 Ty.mixed rfl rfl (hK.drawn _) ?_
   intro w hK
   have hS : (fun w => K e w G4 ((b3, row (wc W4) 39) :: L)) w := K.sl hK
   refine xt (i := 0) rfl kr rfl rfl (fun w hK => (lsO hK Ty.a39 Ty.s39 0 rfl rfl rfl)) hS <| xt (i := 1) rfl kr rfl rfl (fun w hK => mv) hS <| xt (i := 2) rfl kr rfl rfl (fun w hK => (mI rfl)) hS <| xt (i := 3) rfl kr rfl rfl (fun w hK => (ixm1 (m := i) underlying47 Ty.s9 rfl hu4.1 rfl om om)) hS <| xt (i := 4) rfl kr rfl rfl (fun w hK => (ldV hK Ty.o9 rfl hcl)) hS <| ?_
   refine xe2 (i := 5) (j := 9) kr rfl rfl rfl rfl ?_ ?_
   ·skip
    refine cl call23 rfl (l61Line_c hK hW4 hok4 (hbl _ (List.getElem_mem hi2))) ?_
    rintro _ w ⟨G5, W5, q5, hG5, rfl, hW5, hK⟩
    refine xnk ((K.vle (K.sl hK) hG5)) fun hS => ?_
    refine xt (i := 6) rfl kr rfl rfl (fun w hK => mv) hS <| xt (i := 7) rfl kr rfl rfl (fun w hK => (ext rfl rfl)) hS <| xt (i := 8) rfl kr rfl rfl (fun w hK => (ext rfl rfl)) hS <| ?_
    refine xe (i := 9) kr rfl rfl ?_
    refine al hK Ty.i39 rfl ?_
    intro b8 w hK
    refine xnk ((K.vle (K.sl hK) hG5)) fun hS => ?_
    refine xe (i := 10) kr rfl rfl ?_
    refine soS hK Ty.i39 0 rfl rfl rfl rfl (WdS.one hW5) rfl ?_
    intro w hK
    refine xnk ((K.vle (K.sl hK) hG5)) fun hS => ?_
    refine xt (i := 11) rfl kr rfl rfl (fun w hK => asg) hS <| xd kr <| thn <| sq <| rg <| vl (lsO hK Ty.a39 Ty.s39 0 rfl rfl rfl) <| ?_
    refine soS hK Ty.i39 1 rfl rfl rfl rfl (WdS.one hW5) rfl ?_
    intro w hK
    refine nl <| thn <| rg <| vl mv <| vl mv <| vl (sad rfl rfl (by first | omega | (simp; omega))) <| vl asg <| nl <| bkn <| thn <| rg <| vl (mI rfl) <| vl (ad rfl rfl) <| vl (aI rfl) <| nl <| thn <| ?_
    replace hK : K e w G5 ((b8, row (wc W5) 39) :: (b3, row (wc W5) 39) :: L) := hK
    exact ⟨(i + 1, G5, W5, q5), ⟨rfl, by simp only; rw [ht]; rfl, rfl, rfl, trivial⟩, ⟨by simp only; omega, hG4.trans hG5, by simp only; rw [ht]; exact hW5, hK.drop1⟩, by simp only; omega⟩
   ·refine al hK Ty.i39 rfl ?_
    intro b8 w hK
    refine xnk (K.sl hK) fun hS => ?_
    refine xe (i := 5) kr rfl rfl ?_
    refine cl call23 rfl (l61Line_c hK hW4 hok4 (hbl _ (List.getElem_mem hi2))) ?_
    rintro _ w ⟨G5, W5, q5, hG5, rfl, hW5, hK⟩
    refine xnk ((K.vle (K.sl hK) hG5)) fun hS => ?_
    refine xt (i := 6) rfl kr rfl rfl (fun w hK => mv) hS <| xt (i := 7) rfl kr rfl rfl (fun w hK => (ext rfl rfl)) hS <| xt (i := 8) rfl kr rfl rfl (fun w hK => (ext rfl rfl)) hS <| ?_
    refine xe (i := 10) kr rfl rfl ?_
    refine soS hK Ty.i39 0 rfl rfl rfl rfl (WdS.one hW5) rfl ?_
    intro w hK
    refine xnk ((K.vle (K.sl hK) hG5)) fun hS => ?_
    refine xt (i := 11) rfl kr rfl rfl (fun w hK => asg) hS <| xd kr <| thn <| sq <| rg <| vl (lsO hK Ty.a39 Ty.s39 0 rfl rfl rfl) <| ?_
    refine soS hK Ty.i39 1 rfl rfl rfl rfl (WdS.one hW5) rfl ?_
    intro w hK
    refine nl <| thn <| rg <| vl mv <| vl mv <| vl (sad rfl rfl (by first | omega | (simp; omega))) <| vl asg <| nl <| bkn <| thn <| rg <| vl (mI rfl) <| vl (ad rfl rfl) <| vl (aI rfl) <| nl <| thn <| ?_
    replace hK : K e w G5 ((b8, row (wc W5) 39) :: (b3, row (wc W5) 39) :: L) := hK
    exact ⟨(i + 1, G5, W5, q5), ⟨rfl, by simp only; rw [ht]; rfl, rfl, rfl, trivial⟩, ⟨by simp only; omega, hG4.trans hG5, by simp only; rw [ht]; exact hW5, hK.drop1⟩, by simp only; omega⟩
  ·have hi' : i = ls.length - 1 := by simp only at hc; omega
   subst hi'
   have hok4 := runL_ok (ls.take (ls.length - 1))
   have hol := outL_bd (ls.take (ls.length - 1))
   unfold outL at hol
   rw [List.length_append, List.length_take] at hol
   refine ex <| the <| the <| bkh <| thn <| sq <| rg <| ?_
   refine vl mv <| vl (lsO hK Ty.a39 Ty.s39 0 rfl rfl rfl) <| ?_
   refine cl call24 rfl (l61State_c hK hW4 hok4) ?_
   rintro _ w ⟨rfl, hK⟩
   refine vl (sad rfl rfl (by first | omega | (simp; omega))) <| vl asg <| nl <| thn <| rt <| p1r (a := _) rfl <| ?_
   exact ⟨rfl, G4, ((hG1.trans hG2).trans hG3).trans hG4, hK.drop1⟩
end
end Go.Proofs.YtbiihblpgfgaoabGreatDoor
