/- Contracts of the specification's events of a world. The contract of the specification's events of a world from outside. The program's events of the ring. The program's events. The library's lock, under this program's numbers. The program's guarded events. The program's events of worlds. Contracts of the functions that copy, compare and mark leases and scans. Conditions: those that each row states. -/
import Derived.Test.YtmgggljicpmndaaGreatDoorWd3
import Derived.Test.YtmgggljicpmndaaGreatDoorOx
import Derived.Test.YtmgggljicpmndaaGreatDoorWc
import Derived.Test.YtmgggljicpmndaaGreatDoorType
import Derived.Conc.MuLone
import Derived.KernelRfl
import Derived.Test.YtmgggljicpmndaaGreatDoorWm
import Derived.Test.YtmgggljicpmndaaGreatDoorCf
namespace Go.Proofs.YtmgggljicpmndaaGreatDoor
open Go Go.Ro Tryz
section
variable {e w : World} {G : View} {L A : Own} {v u : Value} {xs ys : List Int} {ls ms : List Ls} {rs qs : List Rn} {zs ts : List It} {W W' : Wv} {wd wd' : Wd} {a b c k kd id other : Int} {i j bk o : Nat}
theorem l51Do_c (hK : K e w G L) (hW : WdS G lc W wd rs) (ha : WdA wd) : Ret prog 23 #[.agg (wc W).toArray, .agg (ec kd a b c).toArray] w (fun r w' => ∃ G' W' rs', VLe G G' ∧ r = .agg (wc W').toArray ∧ WdS G' lc W' (doW wd kd a b c) rs' ∧ K e w' G' L) := by
 have hz := ha.zl
 have hsl := ha.si.len
 have hn' : Tm W.now := by rw [hW.now]; exact ha.now
 refine enterG1 (args := [.agg (wc W).toArray, .agg (ec kd a b c).toArray]) func23 rfl rfl rfl rfl ?_
 refine sq <| rg <| ?_
 refine bx hK rfl rfl ?_
 intro b2 w hK
 refine bx hK rfl rfl ?_
 intro b3 w hK
 refine al hK Ty.i31 rfl ?_
 intro b4 w hK
 refine nl <| thn <| sq <| sq <| rg <| vl (fa underlying55 rfl Ty.z3 rfl) <| vl (ldO hK Ty.o3 1 rfl rfl rfl) <| nl <| thn <| bk <| sq <| sq <| rg <| vl (eq rfl rfl) <| vl (aB rfl) <| nl <| thn <| ?_
 refine ct (σ := Bool) (fun s => [(2, .pointer (some ⟨b2, 0, none⟩)), (3, .pointer (some ⟨b3, 0, none⟩)), (4, .pointer (some ⟨b4, 0, none⟩)), (6, .int .i64 kd), (7, .bool s)]) (fun s w => (s = true ↔ kd = 7 ∨ kd = 8 ∨ kd = 9) ∧ K e w G ((b4, row [.int .i64 0, .slice none 0 0, .slice none 0 0, .slice none 0 0, .int .i64 0, .slice none 0 0, .slice none 0 0] 31) :: (b3, row (ec kd a b c) 55) :: (b2, row (wc W) 31) :: L)) ?_ ?_
 ·refine cdP rfl (fun q1 => ?_) fun q1 => ?_
  ·refine sk <| ctn <| ?_
   exact ⟨_, ⟨rfl, rfl, rfl, rfl, rfl, trivial⟩, by rw [decide_eq_true_eq]; omega, hK⟩
  ·refine sq <| rg <| ?_
   refine vl (eq rfl rfl) <| vl (aB rfl) <| nl <| thn <| ?_
   refine cdP rfl (fun q2 => ?_) fun q2 => ?_
   ·refine sk <| ctn <| ?_
    exact ⟨_, ⟨rfl, rfl, rfl, rfl, rfl, trivial⟩, by rw [decide_eq_true_eq]; omega, hK⟩
   ·refine rg <| ?_
    refine vl (eq rfl rfl) <| vl (aB rfl) <| nl <| ctn <| ?_
    exact ⟨_, ⟨rfl, rfl, rfl, rfl, rfl, trivial⟩, by rw [decide_eq_true_eq]; omega, hK⟩
 ·rintro s g w ⟨hs, hK⟩
  refine thn <| ?_
  refine cdB rfl (fun g1 => ?_) fun g1 => ?_
  ·have g1' := hs.1 g1
   have hd : doW wd kd a b c = leW wd kd a b c := if_pos g1'
   refine sq <| rg <| ?_
   refine vl (lsO hK Ty.a31 Ty.s31 2 rfl rfl rfl) <| vl (lsO hK Ty.a55 Ty.s55 1 rfl rfl rfl) <| ?_
   refine cl call56 rfl (l51Lease_c hK hW ha.ls ha.now) ?_
   rintro _ w ⟨G9, W9, hG9, rfl, hW9, hK⟩
   refine soS hK Ty.i31 0 rfl rfl rfl rfl (WdS.one hW9) rfl ?_
   intro w hK
   refine nl <| thn <| rt <| bkr <| thr <| pg1r (rvS hK Ty.a31 Ty.s31 0 rfl rfl rfl) <| ?_
   rw [hd]
   exact ⟨G9, W9, rs, hG9, rfl, hW9, hK.drop1.drop1.drop1⟩
  ·have g1' : ¬ (kd = 7 ∨ kd = 8 ∨ kd = 9) := fun h => by rw [hs.2 h] at g1; cases g1
   refine sq <| rg <| ?_
   refine vl (eq rfl rfl) <| vl (aB rfl) <| nl <| thn <| ?_
   refine cdP rfl (fun g2 => ?_) fun g2 => ?_
   ·have hd : doW wd kd a b c = rgW { wd with now := min (wd.now + 1) 999 } kd a b := by
     rw [rgW_no (by omega)]; unfold doW; rw [if_neg g1', if_pos g2]
    have hW1 : WdS G lc { W with now := min (W.now + 1) 999 } { wd with now := min (wd.now + 1) 999 } rs := ⟨by show min (W.now + 1) 999 = min (wd.now + 1) 999; rw [hW.now], hW.ring, hW.rg, hW.leases, hW.items, hW.next, hW.told, hW.since⟩
    refine rg <| ?_
    refine vl (fa underlying31 rfl Ty.z3 rfl) <| vl (ldO hK Ty.o3 2 rfl rfl rfl) <| vl (ad rfl rfl) <| vl (mn rfl rfl) <| vl (fa underlying31 rfl Ty.z3 rfl) <| ?_
    refine so hK Ty.i3 rfl 2 rfl rfl rfl rfl rfl ?_
    intro w hK
    refine nl <| bkn <| thn <| sq <| ?_
    replace hK : K e w G ((b4, row [.int .i64 0, .slice none 0 0, .slice none 0 0, .slice none 0 0, .int .i64 0, .slice none 0 0, .slice none 0 0] 31) :: (b3, row (ec kd a b c) 55) :: (b2, row (wc { W with now := min (W.now + 1) 999 }) 31) :: L) := hK
    refine rg <| ?_
    refine vl (lsO hK Ty.a31 Ty.s31 2 rfl rfl rfl) <| vl (lsO hK Ty.a55 Ty.s55 1 rfl rfl rfl) <| ?_
    refine cl call60 rfl (l51Ring_c hK hW1) ?_
    rintro _ w ⟨G9, W9, q9, hG9, rfl, hW9, hK⟩
    refine soS hK Ty.i31 0 rfl rfl rfl rfl (WdS.one hW9) rfl ?_
    intro w hK
    refine nl <| thn <| rt <| pg1r (rvS hK Ty.a31 Ty.s31 0 rfl rfl rfl) <| ?_
    rw [hd]
    exact ⟨G9, W9, q9, hG9, rfl, hW9, hK.drop1.drop1.drop1⟩
   ·refine sq <| sq <| rg <| ?_
    refine vl (eq rfl rfl) <| vl (aB rfl) <| nl <| thn <| ?_
    refine ct (σ := Bool) (fun s => [(2, .pointer (some ⟨b2, 0, none⟩)), (3, .pointer (some ⟨b3, 0, none⟩)), (4, .pointer (some ⟨b4, 0, none⟩)), (6, .int .i64 kd), (21, .bool s)]) (fun s w => (s = true ↔ kd = 11 ∨ kd = 12) ∧ K e w G ((b4, row [.int .i64 0, .slice none 0 0, .slice none 0 0, .slice none 0 0, .int .i64 0, .slice none 0 0, .slice none 0 0] 31) :: (b3, row (ec kd a b c) 55) :: (b2, row (wc W) 31) :: L)) ?_ ?_
    ·refine cdP rfl (fun q1 => ?_) fun q1 => ?_
     ·refine sk <| ctn <| ?_
      exact ⟨_, ⟨rfl, rfl, rfl, rfl, rfl, trivial⟩, by rw [decide_eq_true_eq]; omega, hK⟩
     ·refine rg <| ?_
      refine vl (eq rfl rfl) <| vl (aB rfl) <| nl <| ctn <| ?_
      exact ⟨_, ⟨rfl, rfl, rfl, rfl, rfl, trivial⟩, by rw [decide_eq_true_eq]; omega, hK⟩
    ·rintro s2 g w ⟨hs2, hK⟩
     refine thn <| ?_
     refine cdB rfl (fun g3 => ?_) fun g3 => ?_
     ·have g3' := hs2.1 g3
      have hd : doW wd kd a b c = itW wd kd a b c := by unfold doW; rw [if_neg g1', if_neg g2, if_pos g3']
      refine sq <| rg <| ?_
      refine vl (lsO hK Ty.a31 Ty.s31 2 rfl rfl rfl) <| vl (lsO hK Ty.a55 Ty.s55 1 rfl rfl rfl) <| ?_
      refine cl call57 rfl (l51Item_c hK hW ha.ls om om) ?_
      rintro _ w ⟨G9, W9, hG9, rfl, hW9, hK⟩
      refine soS hK Ty.i31 0 rfl rfl rfl rfl (WdS.one hW9) rfl ?_
      intro w hK
      refine nl <| thn <| rt <| bkr <| thr <| pg1r (rvS hK Ty.a31 Ty.s31 0 rfl rfl rfl) <| ?_
      rw [hd]
      exact ⟨G9, W9, rs, hG9, rfl, hW9, hK.drop1.drop1.drop1⟩
     ·have g3' : ¬ (kd = 11 ∨ kd = 12) := fun h => by rw [hs2.2 h] at g3; cases g3
      refine sq <| rg <| ?_
      refine vl (eq rfl rfl) <| vl (aB rfl) <| nl <| thn <| ?_
      refine cdP rfl (fun g4 => ?_) fun g4 => ?_
      ·have hd : doW wd kd a b c = rgW { wd with scan := (0, []), since := keys wd.items } kd a b := by
        rw [rgW_no (by omega)]; unfold doW; rw [if_neg g1', if_neg g2, if_neg g3', if_pos g4]
       refine sq <| rg <| ?_
       refine cl call55 rfl (l41New_c hK) ?_
       rintro _ w ⟨t4, A4, rfl, ho4, hK⟩
       obtain ⟨G1, hG1, ht, hK⟩ := K.pubO (xs := []) hK ho4
       refine vl (fa underlying31 rfl Ty.z29 rfl) <| ?_
       refine soS hK Ty.i29 2 rfl rfl rfl rfl (allc rfl (allc ht.1.one rfl)) rfl ?_
       intro w hK
       refine nl <| thn <| rg <| vl (fa underlying31 rfl Ty.z27 rfl) <| vl (ldO hK Ty.o27 2 rfl rfl rfl) <| ?_
       refine cl call58 rfl (l51Keys_c hK (hW.items.mono hG1) om) ?_
       rintro k5 w ⟨A5, ho5, hK⟩
       obtain ⟨G2, hG2, hk5, hK⟩ := hK.pubO ho5
       have hG := hG1.trans hG2
       have hW1 : WdS G2 lc { W with next := 0, t := t4, s := k5 } { wd with scan := (0, []), since := keys wd.items } rs := ⟨hW.now, hW.ring.mono hG, hW.rg, LeaS.mono hW.leases hG, hW.items.mono hG, rfl, ht.mono hG2, hk5⟩
       refine vl (fa underlying31 rfl Ty.z22 rfl) <| ?_
       refine so hK Ty.i22 rfl 2 rfl rfl rfl hk5.1.one rfl ?_
       intro w hK
       refine nl <| bkn <| thn <| sq <| ?_
       replace hK : K e w G2 ((b4, row [.int .i64 0, .slice none 0 0, .slice none 0 0, .slice none 0 0, .int .i64 0, .slice none 0 0, .slice none 0 0] 31) :: (b3, row (ec kd a b c) 55) :: (b2, row (wc { W with next := 0, t := t4, s := k5 }) 31) :: L) := hK
       refine rg <| ?_
       refine vl (lsO hK Ty.a31 Ty.s31 2 rfl rfl rfl) <| vl (lsO hK Ty.a55 Ty.s55 1 rfl rfl rfl) <| ?_
       refine cl call60 rfl (l51Ring_c hK hW1) ?_
       rintro _ w ⟨G9, W9, q9, hG9, rfl, hW9, hK⟩
       refine soS hK Ty.i31 0 rfl rfl rfl rfl (WdS.one hW9) rfl ?_
       intro w hK
       refine nl <| thn <| rt <| pg1r (rvS hK Ty.a31 Ty.s31 0 rfl rfl rfl) <| ?_
       rw [hd]
       exact ⟨G9, W9, q9, hG.trans hG9, rfl, hW9, hK.drop1.drop1.drop1⟩
      ·refine sq <| rg <| ?_
       refine vl (eq rfl rfl) <| vl (aB rfl) <| nl <| thn <| ?_
       refine cdP rfl (fun g5 => ?_) fun g5 => ?_
       ·have hd : doW wd kd a b c = scW wd := by unfold doW; rw [if_neg g1', if_neg g2, if_neg g3', if_neg g4, if_pos g5]
        refine sq <| rg <| ?_
        refine vl (lsO hK Ty.a31 Ty.s31 2 rfl rfl rfl) <| ?_
        refine cl call59 rfl (l51Scan_c hK hW ha.ls ha.it.2 ha.sc om) ?_
        rintro _ w ⟨G9, W9, hG9, rfl, hW9, hK⟩
        refine soS hK Ty.i31 0 rfl rfl rfl rfl (WdS.one hW9) rfl ?_
        intro w hK
        refine nl <| thn <| rt <| bkr <| thr <| pg1r (rvS hK Ty.a31 Ty.s31 0 rfl rfl rfl) <| ?_
        rw [hd]
        exact ⟨G9, W9, rs, hG9, rfl, hW9, hK.drop1.drop1.drop1⟩
       ·have hd : doW wd kd a b c = rgW wd kd a b := by unfold doW; rw [if_neg g1', if_neg g2, if_neg g3', if_neg g4, if_neg g5]
        refine sk <| bkn <| thn <| sq <| rg <| ?_
        refine vl (lsO hK Ty.a31 Ty.s31 2 rfl rfl rfl) <| vl (lsO hK Ty.a55 Ty.s55 1 rfl rfl rfl) <| ?_
        refine cl call60 rfl (l51Ring_c hK hW) ?_
        rintro _ w ⟨G9, W9, q9, hG9, rfl, hW9, hK⟩
        refine soS hK Ty.i31 0 rfl rfl rfl rfl (WdS.one hW9) rfl ?_
        intro w hK
        refine nl <| thn <| rt <| pg1r (rvS hK Ty.a31 Ty.s31 0 rfl rfl rfl) <| ?_
        rw [hd]
        exact ⟨G9, W9, q9, hG9, rfl, hW9, hK.drop1.drop1.drop1⟩
end
open Go Go.Ro Tryz
section
variable {e w : World} {G : View} {L A : Own} {v u : Value} {rs qs : List Rn} {W W' : Wv} {wd wd' : Wd} {a b c k kd : Int}
end
open Go Go.Ro Tryz
section
variable {e w : World} {G : View} {L A AI AS : Own} {v u m0 m1 : Value} {rs qs : List Rn} {zs : List It} {W W' : Wv} {wd wd' : Wd} {a b c k kd id other key : Int} {i gk o : Nat}
theorem setRing_c {ok : Bool} (hK : K e w G ((gk, row (m0 :: m1 :: wc W) 69) :: L)) (h1 : Ro.one v = true) :
  Ret prog 168 #[.pointer (some ⟨gk, 2, none⟩), v, .bool ok] w (fun r w' => r = .tuple #[] ∧ K e w' G ((gk, row (m0 :: m1 :: wc (if ok = true then { W with r := v } else W)) 69) :: L)) := by
 refine enter0 (args := [.pointer (some ⟨gk, 2, none⟩), v, .bool ok]) func168 rfl rfl rfl rfl ?_
 refine sq <| rg <| ?_
 refine vl (mB rfl) <| nl <| thn <| ?_
 refine cdB rfl (fun hb => ?_) fun hb => ?_
 ·subst hb
  refine rg <| ?_
  refine vl mv <| vl mv <| vl (nc rfl) <| vl (fa underlying31 rfl Ty.z25 rfl) <| ?_
  refine so hK Ty.i25 rfl 0 rfl rfl rfl h1 rfl ?_
  intro w hK
  refine nl <| p0n <| ?_
  exact ⟨rfl, hK⟩
 ·have hb' : ok = false := by simpa using hb
  subst hb'
  refine sk <| p0n <| ?_
  exact ⟨rfl, hK⟩
theorem setLeases_c {ok : Bool} (hK : K e w G ((gk, row (m0 :: m1 :: wc W) 69) :: L)) (h1 : Ro.one v = true) :
  Ret prog 119 #[.pointer (some ⟨gk, 2, none⟩), v, .bool ok] w (fun r w' => r = .tuple #[] ∧ K e w' G ((gk, row (m0 :: m1 :: wc (if ok = true then { W with l := v } else W)) 69) :: L)) := by
 refine enter0 (args := [.pointer (some ⟨gk, 2, none⟩), v, .bool ok]) func119 rfl rfl rfl rfl ?_
 refine sq <| rg <| ?_
 refine vl (mB rfl) <| nl <| thn <| ?_
 refine cdB rfl (fun hb => ?_) fun hb => ?_
 ·subst hb
  refine rg <| ?_
  refine vl mv <| vl mv <| vl (nc rfl) <| vl (fa underlying31 rfl Ty.z26 rfl) <| ?_
  refine so hK Ty.i26 rfl 0 rfl rfl rfl h1 rfl ?_
  intro w hK
  refine nl <| p0n <| ?_
  exact ⟨rfl, hK⟩
 ·have hb' : ok = false := by simpa using hb
  subst hb'
  refine sk <| p0n <| ?_
  exact ⟨rfl, hK⟩
end
open Go Go.Ro Tryz
section
variable {e w : World} {G : View} {L A AI AS : Own} {v u m0 m1 : Value} {rs qs : List Rn} {zs : List It} {W W' : Wv} {wd wd' : Wd} {a b c k kd id other key : Int} {i gk o : Nat} {a0 a1 : Addr}
theorem outB {x y : Nat × Obj} {A B L : Own} (hK : K e w G (x :: (A ++ (B ++ (y :: L))))) : K e w G (x :: (A ++ (B ++ L))) := by
 have h : K e w G (y :: x :: (A ++ (B ++ L))) := hK.reo
 exact h.drop1
theorem leO_no (h : a ∉ ids wd.ring) : leO wd kd a b c = (wd.leases, false) := if_pos h
theorem leO_7 (hk : kd = 7) (h : ¬ (a ∈ ids wd.ring ∧ c ∈ ids wd.ring ∧ Pt b ∧ own wd b = a)) : leO wd kd a b c = (wd.leases, false) := by
 unfold leO
 by_cases ha : a ∈ ids wd.ring
 ·rw [if_neg (fun hn => hn ha), if_pos hk, if_neg (fun hh => h ⟨ha, hh⟩)]
 ·rw [if_pos ha]
theorem doW_le (hk : kd = 7 ∨ kd = 8 ∨ kd = 9) : doW wd kd a b c = leW wd kd a b c := if_pos hk
theorem doW_it (hk : kd = 11 ∨ kd = 12) : doW wd kd a b c = itW wd kd a b c := by
 unfold doW; rw [if_neg (by omega), if_neg (by omega), if_pos hk]
theorem own_ids (h : own wd b = a) (h0 : 0 ≤ a) : a ∈ ids wd.ring := by
 unfold own at h
 split at h
 ·omega
 ·rename_i hn
  exact Classical.byContradiction fun hc => hn (.inr (by rw [h]; exact hc))
theorem own_iff (hrg : RgOk wd.ring) : (a ∈ ids wd.ring ∧ Pt b ∧ own wd b = a) ↔ (Pt b ∧ own wd b = a ∧ 0 ≤ a) :=
 ⟨fun h => ⟨h.2.1, h.2.2, by obtain ⟨x, hx, rfl⟩ := List.mem_map.1 h.1; exact (hrg.2.1 x hx).1.1⟩, fun h => ⟨own_ids h.2.1 h.2.2, h.1, h.2.1⟩⟩
end
open Go Go.Ro Tryz
abbrev muL : Go.Conc.Locks.MuLink := { lock := 64, unlock := 65, ilock := 115, iunlock := 116, lockSlow := 153, unlockSlow := 156, disable := 149, enable := 151, acquire := 152, relMerge := 154, cas32 := 150, add32 := 155, tMutex := 67, tIMutex := 65, tPMutex := 136, tPIMutex := 152, tPI32 := 154, tUP := 156, tNoCopy := 62, tU32 := 63 }
theorem muLib : Go.Conc.Locks.MuLib prog muL :=
 ⟨func64, func65, func115, func116, func149, func151, func152, func154, func150, func155,
  underlying65, fun w => by kernel_rfl, fun w => by kernel_rfl, fun w => by kernel_rfl, fun w => by kernel_rfl,
  underlying67, fun w => by kernel_rfl, fun w => by kernel_rfl, fun w => by kernel_rfl, fun w => by kernel_rfl,
  underlying136, fun w => by kernel_rfl, fun w => by kernel_rfl, fun w => by kernel_rfl, fun w => by kernel_rfl,
  underlying152, fun w => by kernel_rfl, fun w => by kernel_rfl, fun w => by kernel_rfl, fun w => by kernel_rfl,
  underlying154, fun w => by kernel_rfl, fun w => by kernel_rfl, fun w => by kernel_rfl, fun w => by kernel_rfl,
  underlying156, fun w => by kernel_rfl, fun w => by kernel_rfl, fun w => by kernel_rfl, fun w => by kernel_rfl,
  underlying62, fun w => by kernel_rfl, fun w => by kernel_rfl, fun w => by kernel_rfl, fun w => by kernel_rfl,
  underlying21, fun w => by kernel_rfl, fun w => by kernel_rfl, fun w => by kernel_rfl, fun w => by kernel_rfl,
  by kernel_rfl⟩
open Go Go.Ro Go.MuLone Tryz
section
variable {e w : World} {G : View} {L A AI AS : Own} {v u m0 m1 : Value} {rs qs : List Rn} {W W' : Wv} {wd wd' : Wd} {a b c k kd : Int} {gk : Nat} {a0 a1 : Addr} {l : List Value}
theorem lockR (hK : K e w G ((gk, row (.int .i32 0 :: l) 69) :: L)) : Ret prog 64 #[.pointer (some ⟨gk, 0, none⟩)] w (fun r w' => r = .tuple #[] ∧ K e w' G ((gk, row (.int .i32 1 :: l) 69) :: L)) := by
 have hb := hK.own gk _ (List.mem_cons_self ..)
 refine (lock_free muLib ⟨gk, 0, none⟩ w (by simp [World.cell?, hb, row]) (by simp [World.frozen?, hb, row])).mono ?_
 rintro e w' ⟨rfl, rfl⟩
 exact ⟨_, rfl, rfl, K.set0 hK⟩
end
open Go Go.Ro Tryz
section
variable {e w : World} {G : View} {L A AI AS : Own} {v u m0 m1 : Value} {rs qs : List Rn} {W W' : Wv} {wd wd' : Wd} {a b c k kd : Int} {gk : Nat} {a0 a1 : Addr} {l : List Value}
end
open Go Go.Ro Tryz
section
variable {e w : World} {G : View} {L A : Own} {v u t t2 : Value} {xs ys ks ts us : List Int} {ls ms : List Ls} {n m k : Int}
theorem eqLease_c (hK : K e w G L) {x y : Ls} : Ret prog 68 #[.agg (lc x).toArray, .agg (lc y).toArray] w (fun r w' => r = .bool (decide (x = y)) ∧ K e w' G L) := by
 refine enter1 (args := [.agg (lc x).toArray, .agg (lc y).toArray]) func68 rfl rfl rfl rfl ?_
 refine sq <| rg <| ?_
 refine bx hK rfl rfl ?_
 intro b2 w hK
 refine bx hK rfl rfl ?_
 intro b3 w hK
 refine vl (aB rfl) <| nl <| thn <| sq <| sq <| rg <| vl (fa underlying101 rfl Ty.z3 rfl) <| vl (ldO hK Ty.o3 1 rfl rfl rfl) <| vl (fa underlying101 rfl Ty.z3 rfl) <| vl (ldO hK Ty.o3 0 rfl rfl rfl) <| vl (ne rfl rfl) <| nl <| thn <| ?_
 refine cdP rfl (fun h1 => ?_) fun h1 => ?_
 ·refine sq <| rg <| ?_
  refine vl (aB rfl) <| nl <| thn <| rt <| thr <| p1r (a := .bool _) rfl <| ?_
  exact ⟨by rw [decide_eq_false]; rintro rfl; exact h1 rfl, hK.drop1.drop1⟩
 ·refine sk <| thn <| sq <| sq <| rg <| ?_
  refine vl (fa underlying101 rfl Ty.z3 rfl) <| vl (ldO hK Ty.o3 1 rfl rfl rfl) <| vl (fa underlying101 rfl Ty.z3 rfl) <| vl (ldO hK Ty.o3 0 rfl rfl rfl) <| vl (ne rfl rfl) <| nl <| thn <| ?_
  refine cdP rfl (fun h2 => ?_) fun h2 => ?_
  ·refine sq <| rg <| ?_
   refine vl (aB rfl) <| nl <| thn <| rt <| thr <| p1r (a := .bool _) rfl <| ?_
   exact ⟨by rw [decide_eq_false]; rintro rfl; exact h2 rfl, hK.drop1.drop1⟩
  ·refine sk <| thn <| sq <| sq <| rg <| ?_
   refine vl (fa underlying101 rfl Ty.z3 rfl) <| vl (ldO hK Ty.o3 1 rfl rfl rfl) <| vl (fa underlying101 rfl Ty.z3 rfl) <| vl (ldO hK Ty.o3 0 rfl rfl rfl) <| vl (ne rfl rfl) <| nl <| thn <| ?_
   refine cdP rfl (fun h3 => ?_) fun h3 => ?_
   ·refine sq <| rg <| ?_
    refine vl (aB rfl) <| nl <| thn <| rt <| thr <| p1r (a := .bool _) rfl <| ?_
    exact ⟨by rw [decide_eq_false]; rintro rfl; exact h3 rfl, hK.drop1.drop1⟩
   ·refine sk <| thn <| sq <| rg <| ?_
    refine vl (aB rfl) <| nl <| thn <| rt <| p1r (a := .bool _) rfl <| ?_
    exact ⟨by rw [decide_eq_true]; exact Prod.ext (Decidable.not_not.1 h1) (Prod.ext (Decidable.not_not.1 h2) (Decidable.not_not.1 h3)), hK.drop1.drop1⟩
theorem eqLeaseS_c (hK : K e w G L) (hv : LeaS G v ls) (hu : LeaS G u ms) :
  Ret prog 28 #[v, u] w (fun r w' => r = .bool (decide (ls = ms)) ∧ K e w' G L) := by
 have hle := hv.le
 refine enter1 (args := [v, u]) func28 rfl rfl rfl rfl ?_
 refine sq <| rg <| ?_
 refine vl (aB rfl) <| nl <| thn <| sq <| sq <| rg <| vl mv <| vl (ln underlying26 rfl hv.len) <| vl mv <| vl (ln underlying26 rfl hu.len) <| vl (ne rfl rfl) <| nl <| thn <| ?_
 refine cdP rfl (fun h => ?_) fun h => ?_
 ·refine sq <| rg <| ?_
  refine vl (aB rfl) <| nl <| thn <| rt <| thr <| p1r (a := .bool _) rfl <| ?_
  exact ⟨by rw [decide_eq_false]; rintro rfl; exact h rfl, hK⟩
 ·have hlen : ls.length = ms.length := by omega
  refine sk <| thn <| sq <| sq <| rg <| ?_
  refine vl (aI rfl) <| nl <| thn <| bk <| ?_
  refine lp (σ := Nat) (fun i => [(0, v), (1, u), (5, .int .i64 (i : Int))]) (fun i w => i ≤ ls.length ∧ ls.take i = ms.take i ∧ K e w G L) (fun i => ls.length - i) 0 ⟨rfl, rfl, rfl, trivial⟩ ⟨Nat.zero_le _, by simp, hK⟩ ?_
  rintro i g w ⟨hi, ht, hK⟩
  refine sq <| sq <| rg <| ?_
  refine vl (mI rfl) <| vl mv <| vl (ln underlying26 rfl hv.len) <| vl (lt rfl rfl) <| nl <| thn <| ?_
  refine cdP rfl (fun hc => ?_) fun hc => ?_
  ·have hi' : i < ls.length := by omega
   have hi2 : i < ms.length := by omega
   refine sk <| thn <| sq <| bk <| sq <| ?_
   refine rgq (fun w => K _ w _ _) Ty.mixed kr (hK.drawn _) ?_
   refine qv (fun w hK => mv) <| qv (fun w hK => (mI rfl)) <| qv (fun w hK => (ixn underlying26 Ty.s101 rfl hv.1 rfl om)) <| qv (fun w hK => (lsF hK Ty.a101 Ty.s101 rfl hv om)) <| qv (fun w hK => mv) <| qv (fun w hK => (mI rfl)) <| qv (fun w hK => (ixn underlying26 Ty.s101 rfl hu.1 rfl om)) <| qv (fun w hK => (lsF hK Ty.a101 Ty.s101 rfl hu om)) <| ?_
   refine qcl call68 rfl (fun w hK => eqLease_c hK) ?_
   refine qv (fun w hK => (nt rfl)) <| qn <| ?_
   intro w hK
   refine thn <| ?_
   refine cdP rfl (fun hx => ?_) fun hx => ?_
   ·refine sq <| rg <| ?_
    refine vl (aB rfl) <| nl <| thn <| rt <| bkr <| thr <| thr <| bkr <| thr <| p1r (a := .bool _) rfl <| ?_
    exact ⟨by rw [decide_eq_false]; rintro rfl; exact hx rfl, hK⟩
   ·have hxx : ls[i] = ms[i] := Decidable.not_not.1 hx
    refine sk <| bkn <| thn <| rg <| ?_
    refine vl (mI rfl) <| vl (ad rfl rfl) <| vl (aI rfl) <| nl <| thn <| ?_
    exact ⟨i + 1, ⟨rfl, rfl, rfl, trivial⟩, ⟨hi', by rw [List.take_succ_eq_append_getElem hi', List.take_succ_eq_append_getElem hi2, ht, hxx], hK⟩, by omega⟩
  ·refine ex <| the <| the <| bkh <| thn <| sq <| rg <| ?_
   refine vl (aB rfl) <| nl <| thn <| rt <| p1r (a := .bool _) rfl <| ?_
   exact ⟨by rw [decide_eq_true]; rw [List.take_of_length_le (by omega), List.take_of_length_le (by omega)] at ht; exact ht, hK⟩
theorem eqIntS_o {t0 : Nat} (hK : K e w G (A ++ L)) (ho : OS 1 t0 v xs.length (ints xs) A) (hu : IntS G u ys) :
  Ret prog 11 #[v, u] w (fun r w' => r = .bool (decide (xs = ys)) ∧ K e w' G (A ++ L)) :=
 Ret.own hK fun hK' => eqIntS_c hK' ho.ints (hu.mono hK.addV_le)
theorem toIntS_o (hK : K e w G L) (hv : IntS G v xs) (hl : xs.length ≤ 1048576) :
  Ret prog 7 #[v] w (fun r w' => ∃ A, OS 1 3 r xs.length (ints xs) A ∧ K e w' G (A ++ L)) :=
 (toIntS_c hK hv hl).mono fun _ _ ⟨_, hr, hK⟩ => ⟨[_], hr ▸ OS.lit (by simp) (by omega), hK⟩
theorem markIntS_c (hK : K e w G (A ++ L)) (ho : OS 1 3 v xs.length (ints xs) A) (hl : xs.length ≤ 1048576) (h0 : 0 ≤ k) (h1 : k ≤ 1000000000) :
  Ret prog 13 #[v, .int .i64 k] w (fun r w' => r = .int .i64 (k + xs.length) ∧ ∃ A', OS 1 3 v xs.length (ints (marks k xs.length)) A' ∧ K e w' G (A' ++ L)) := by
 refine enter1 (args := [v, .int .i64 k]) func13 rfl rfl rfl rfl ?_
 refine sq <| rg <| ?_
 refine vl (aI rfl) <| nl <| thn <| sq <| sq <| rg <| vl (aI rfl) <| nl <| thn <| bk <| ?_
 refine lp (σ := Nat × Own) (fun s => [(0, v), (1, .int .i64 (k + (s.1 : Int))), (5, .int .i64 (s.1 : Int))]) (fun s w => s.1 ≤ xs.length ∧ OS 1 3 v xs.length (ints (marks k s.1 ++ xs.drop s.1)) s.2 ∧ K e w G (s.2 ++ L)) (fun s => xs.length - s.1) (0, A) ⟨rfl, (by show Value.int .i64 k = Value.int .i64 (k + ((0 : Nat) : Int)); simp), rfl, trivial⟩ ⟨Nat.zero_le _, by simpa [marks] using ho, hK⟩ ?_
 rintro ⟨i, A⟩ g w ⟨hi, ho, hK⟩
 simp only at hi ho hK
 refine sq <| sq <| rg <| ?_
 refine vl (mI rfl) <| vl mv <| vl (ln underlying22 rfl ho.len) <| vl (lt rfl rfl) <| nl <| thn <| ?_
 refine cdP rfl (fun hc => ?_) fun hc => ?_
 ·have hi' : i < xs.length := by simp only at hc; omega
  refine sk <| thn <| sq <| bk <| sq <| rg <| ?_
  refine vl mv <| vl (mI rfl) <| vl (mI rfl) <| vl (ixn1 underlying22 Ty.s3 rfl ho.slw rfl om) <| ?_
  refine osSet (i := i) (u := .int .i64 (k + (i : Int))) hK ho om Ty.i3 rfl rfl rfl rfl fun A' w ho hK => ?_
  rw [ints_set, marks_set (m := xs.length) rfl hi'] at ho
  refine nl <| thn <| rg <| vl (mI rfl) <| vl (ad rfl rfl) <| vl (aI rfl) <| nl <| bkn <| thn <| rg <| vl (mI rfl) <| vl (ad rfl rfl) <| vl (aI rfl) <| nl <| thn <| ?_
  refine ⟨(i + 1, A'), ⟨rfl, ?_, rfl, trivial⟩, ⟨hi', ho, hK⟩, by simp only; omega⟩
  show Value.int .i64 (k + (i : Int) + 1) = Value.int .i64 (k + ((i + 1 : Nat) : Int))
  congr 1; omega
 ·have : i = xs.length := by simp only at hc; omega
  subst this
  refine ex <| the <| the <| bkh <| thn <| sq <| rg <| ?_
  refine vl (mI rfl) <| vl (aI rfl) <| nl <| thn <| rt <| p1r (a := .int _ _) rfl <| ?_
  exact ⟨rfl, A, by simpa using ho, hK⟩
end
end Go.Proofs.YtmgggljicpmndaaGreatDoor
