/- Contracts of the specification's events of a world. The contract of the specification's events of a world from outside. Conditions: those that each row states. -/
import Derived.Test.YtoaeogpnbpaojaaGreatWd3
import Derived.Test.YtoaeogpnbpaojaaGreatStM
namespace Go.Proofs.YtoaeogpnbpaojaaGreat
open Go Go.Ro

section
variable {e w : World} {G : View} {L A : Own} {v u : Value} {xs ys : List Int} {ls ms : List Ls} {rs qs : List Rn} {zs ts : List It} {W W' : Wv} {wd wd' : Wd} {a b c k kd id other : Int} {i j bk o : Nat}

theorem l51Do_c (hK : K e w G L) (hW : WdS G lc W wd rs) (ha : WdA wd) : Ret Tryz.prog 81 #[.agg (wc W).toArray, .agg (ec kd a b c).toArray] w (fun r w' => ∃ G' W' rs', VLe G G' ∧ r = .agg (wc W').toArray ∧ WdS G' lc W' (doW wd kd a b c) rs' ∧ K e w' G' L) := by
 have hz := ha.zl
 have hsl := ha.si.len
 have hn' : Tm W.now := by rw [hW.now]; exact ha.now
 refine enterG1 (args := [.agg (wc W).toArray, .agg (ec kd a b c).toArray]) Tryz.func81 rfl rfl rfl rfl ?_
 refine sq <| rg <| ?_
 refine bx hK rfl rfl ?_
 intro b2 w hK
 refine bx hK rfl rfl ?_
 intro b3 w hK
 refine al hK Ty.i30 rfl ?_
 intro b4 w hK
 refine nl <| thn <| sq <| sq <| rg <| vl (fa Tryz.underlying98 rfl Ty.z3 rfl) <| vl (ldO hK Ty.o3 1 rfl rfl rfl) <| nl <| thn <| bk <| sq <| sq <| rg <| vl (eq rfl rfl) <| vl (aB rfl) <| nl <| thn <| ?_
 refine ct (σ := Bool) (fun s => [(2, .pointer (some ⟨b2, 0, none⟩)), (3, .pointer (some ⟨b3, 0, none⟩)), (4, .pointer (some ⟨b4, 0, none⟩)), (6, .int .i64 kd), (7, .bool s)]) (fun s w => (s = true ↔ kd = 7 ∨ kd = 8 ∨ kd = 9) ∧ K e w G ((b4, row [.int .i64 0, .slice none 0 0, .slice none 0 0, .slice none 0 0, .int .i64 0, .slice none 0 0, .slice none 0 0] 30) :: (b3, row (ec kd a b c) 98) :: (b2, row (wc W) 30) :: L)) ?_ ?_
 ·refine cdP rfl (fun q1 => ?_) (fun q1 => ?_)
  ·refine sk <| ctn <| ?_
   exact ⟨_, ⟨rfl, rfl, rfl, rfl, rfl, trivial⟩, by rw [decide_eq_true_eq]; omega, hK⟩
  ·refine sq <| rg <| ?_
   refine vl (eq rfl rfl) <| vl (aB rfl) <| nl <| thn <| ?_
   refine cdP rfl (fun q2 => ?_) (fun q2 => ?_)
   ·refine sk <| ctn <| ?_
    exact ⟨_, ⟨rfl, rfl, rfl, rfl, rfl, trivial⟩, by rw [decide_eq_true_eq]; omega, hK⟩
   ·refine rg <| ?_
    refine vl (eq rfl rfl) <| vl (aB rfl) <| nl <| ctn <| ?_
    exact ⟨_, ⟨rfl, rfl, rfl, rfl, rfl, trivial⟩, by rw [decide_eq_true_eq]; omega, hK⟩
 ·rintro s g w ⟨hs, hK⟩
  refine thn <| ?_
  refine cdB rfl (fun g1 => ?_) (fun g1 => ?_)
  ·have g1' := hs.1 g1
   have hd : doW wd kd a b c = leW wd kd a b c := if_pos g1'
   refine sq <| rg <| ?_
   refine vl (lsO hK Ty.a30 Ty.s30 2 rfl rfl rfl) <| vl (lsO hK Ty.a98 Ty.s98 1 rfl rfl rfl) <| ?_
   refine cl Tryz.call120 rfl (l51Lease_c hK hW ha.ls ha.now) ?_
   rintro _ w ⟨G9, W9, hG9, rfl, hW9, hK⟩
   refine soS hK Ty.i30 0 rfl rfl rfl rfl (WdS.one hW9) rfl ?_
   intro w hK
   refine nl <| thn <| rt <| bkr <| thr <| pg1r (rvS hK Ty.a30 Ty.s30 0 rfl rfl rfl) <| ?_
   rw [hd]
   exact ⟨G9, W9, rs, hG9, rfl, hW9, hK.drop1.drop1.drop1⟩
  ·have g1' : ¬ (kd = 7 ∨ kd = 8 ∨ kd = 9) := fun h => by rw [hs.2 h] at g1; cases g1
   refine sq <| rg <| ?_
   refine vl (eq rfl rfl) <| vl (aB rfl) <| nl <| thn <| ?_
   refine cdP rfl (fun g2 => ?_) (fun g2 => ?_)
   ·have hd : doW wd kd a b c = rgW { wd with now := min (wd.now + 1) 999 } kd a b := by
     rw [rgW_no (by omega)]; unfold doW; rw [if_neg g1', if_pos g2]
    have hW1 : WdS G lc { W with now := min (W.now + 1) 999 } { wd with now := min (wd.now + 1) 999 } rs := ⟨by show min (W.now + 1) 999 = min (wd.now + 1) 999; rw [hW.now], hW.ring, hW.rg, hW.leases, hW.items, hW.next, hW.told, hW.since⟩
    refine rg <| ?_
    refine vl (fa Tryz.underlying30 rfl Ty.z3 rfl) <| vl (ldO hK Ty.o3 2 rfl rfl rfl) <| vl (ad rfl rfl) <| vl (mn rfl rfl) <| vl (fa Tryz.underlying30 rfl Ty.z3 rfl) <| ?_
    refine so hK Ty.i3 rfl 2 rfl rfl rfl rfl rfl ?_
    intro w hK
    refine nl <| bkn <| thn <| sq <| ?_
    replace hK : K e w G ((b4, row [.int .i64 0, .slice none 0 0, .slice none 0 0, .slice none 0 0, .int .i64 0, .slice none 0 0, .slice none 0 0] 30) :: (b3, row (ec kd a b c) 98) :: (b2, row (wc { W with now := min (W.now + 1) 999 }) 30) :: L) := hK
    refine rg <| ?_
    refine vl (lsO hK Ty.a30 Ty.s30 2 rfl rfl rfl) <| vl (lsO hK Ty.a98 Ty.s98 1 rfl rfl rfl) <| ?_
    refine cl Tryz.call123 rfl (l51Ring_c hK hW1) ?_
    rintro _ w ⟨G9, W9, q9, hG9, rfl, hW9, hK⟩
    refine soS hK Ty.i30 0 rfl rfl rfl rfl (WdS.one hW9) rfl ?_
    intro w hK
    refine nl <| thn <| rt <| pg1r (rvS hK Ty.a30 Ty.s30 0 rfl rfl rfl) <| ?_
    rw [hd]
    exact ⟨G9, W9, q9, hG9, rfl, hW9, hK.drop1.drop1.drop1⟩
   ·refine sq <| sq <| rg <| ?_
    refine vl (eq rfl rfl) <| vl (aB rfl) <| nl <| thn <| ?_
    refine ct (σ := Bool) (fun s => [(2, .pointer (some ⟨b2, 0, none⟩)), (3, .pointer (some ⟨b3, 0, none⟩)), (4, .pointer (some ⟨b4, 0, none⟩)), (6, .int .i64 kd), (21, .bool s)]) (fun s w => (s = true ↔ kd = 11 ∨ kd = 12) ∧ K e w G ((b4, row [.int .i64 0, .slice none 0 0, .slice none 0 0, .slice none 0 0, .int .i64 0, .slice none 0 0, .slice none 0 0] 30) :: (b3, row (ec kd a b c) 98) :: (b2, row (wc W) 30) :: L)) ?_ ?_
    ·refine cdP rfl (fun q1 => ?_) (fun q1 => ?_)
     ·refine sk <| ctn <| ?_
      exact ⟨_, ⟨rfl, rfl, rfl, rfl, rfl, trivial⟩, by rw [decide_eq_true_eq]; omega, hK⟩
     ·refine rg <| ?_
      refine vl (eq rfl rfl) <| vl (aB rfl) <| nl <| ctn <| ?_
      exact ⟨_, ⟨rfl, rfl, rfl, rfl, rfl, trivial⟩, by rw [decide_eq_true_eq]; omega, hK⟩
    ·rintro s2 g w ⟨hs2, hK⟩
     refine thn <| ?_
     refine cdB rfl (fun g3 => ?_) (fun g3 => ?_)
     ·have g3' := hs2.1 g3
      have hd : doW wd kd a b c = itW wd kd a b c := by unfold doW; rw [if_neg g1', if_neg g2, if_pos g3']
      refine sq <| rg <| ?_
      refine vl (lsO hK Ty.a30 Ty.s30 2 rfl rfl rfl) <| vl (lsO hK Ty.a98 Ty.s98 1 rfl rfl rfl) <| ?_
      refine cl Tryz.call121 rfl (l51Item_c hK hW ha.ls om om) ?_
      rintro _ w ⟨G9, W9, hG9, rfl, hW9, hK⟩
      refine soS hK Ty.i30 0 rfl rfl rfl rfl (WdS.one hW9) rfl ?_
      intro w hK
      refine nl <| thn <| rt <| bkr <| thr <| pg1r (rvS hK Ty.a30 Ty.s30 0 rfl rfl rfl) <| ?_
      rw [hd]
      exact ⟨G9, W9, rs, hG9, rfl, hW9, hK.drop1.drop1.drop1⟩
     ·have g3' : ¬ (kd = 11 ∨ kd = 12) := fun h => by rw [hs2.2 h] at g3; cases g3
      refine sq <| rg <| ?_
      refine vl (eq rfl rfl) <| vl (aB rfl) <| nl <| thn <| ?_
      refine cdP rfl (fun g4 => ?_) (fun g4 => ?_)
      ·have hd : doW wd kd a b c = rgW { wd with scan := (0, []), since := keys wd.items } kd a b := by
        rw [rgW_no (by omega)]; unfold doW; rw [if_neg g1', if_neg g2, if_neg g3', if_pos g4]
       refine sq <| rg <| ?_
       refine cl Tryz.call119 rfl (l41New_c hK) ?_
       rintro _ w ⟨t4, A4, rfl, ho4, hK⟩
       obtain ⟨G1, hG1, ht, hK⟩ := K.pubO (xs := []) hK ho4
       refine vl (fa Tryz.underlying30 rfl Ty.z28 rfl) <| ?_
       refine soS hK Ty.i28 2 rfl rfl rfl rfl (allc rfl (allc ht.1.one rfl)) rfl ?_
       intro w hK
       refine nl <| thn <| rg <| vl (fa Tryz.underlying30 rfl Ty.z25 rfl) <| vl (ldO hK Ty.o25 2 rfl rfl rfl) <| ?_
       refine cl Tryz.call38 rfl (l51Keys_c hK (hW.items.mono hG1) om) ?_
       rintro k5 w ⟨A5, ho5, hK⟩
       obtain ⟨G2, hG2, hk5, hK⟩ := hK.pubO ho5
       have hG := hG1.trans hG2
       have hW1 : WdS G2 lc { W with next := 0, t := t4, s := k5 } { wd with scan := (0, []), since := keys wd.items } rs := ⟨hW.now, hW.ring.mono hG, hW.rg, LeaS.mono hW.leases hG, hW.items.mono hG, rfl, ht.mono hG2, hk5⟩
       refine vl (fa Tryz.underlying30 rfl Ty.z26 rfl) <| ?_
       refine so hK Ty.i26 rfl 2 rfl rfl rfl hk5.1.one rfl ?_
       intro w hK
       refine nl <| bkn <| thn <| sq <| ?_
       replace hK : K e w G2 ((b4, row [.int .i64 0, .slice none 0 0, .slice none 0 0, .slice none 0 0, .int .i64 0, .slice none 0 0, .slice none 0 0] 30) :: (b3, row (ec kd a b c) 98) :: (b2, row (wc { W with next := 0, t := t4, s := k5 }) 30) :: L) := hK
       refine rg <| ?_
       refine vl (lsO hK Ty.a30 Ty.s30 2 rfl rfl rfl) <| vl (lsO hK Ty.a98 Ty.s98 1 rfl rfl rfl) <| ?_
       refine cl Tryz.call123 rfl (l51Ring_c hK hW1) ?_
       rintro _ w ⟨G9, W9, q9, hG9, rfl, hW9, hK⟩
       refine soS hK Ty.i30 0 rfl rfl rfl rfl (WdS.one hW9) rfl ?_
       intro w hK
       refine nl <| thn <| rt <| pg1r (rvS hK Ty.a30 Ty.s30 0 rfl rfl rfl) <| ?_
       rw [hd]
       exact ⟨G9, W9, q9, hG.trans hG9, rfl, hW9, hK.drop1.drop1.drop1⟩
      ·refine sq <| rg <| ?_
       refine vl (eq rfl rfl) <| vl (aB rfl) <| nl <| thn <| ?_
       refine cdP rfl (fun g5 => ?_) (fun g5 => ?_)
       ·have hd : doW wd kd a b c = scW wd := by unfold doW; rw [if_neg g1', if_neg g2, if_neg g3', if_neg g4, if_pos g5]
        refine sq <| rg <| ?_
        refine vl (lsO hK Ty.a30 Ty.s30 2 rfl rfl rfl) <| ?_
        refine cl Tryz.call122 rfl (l51Scan_c hK hW ha.ls ha.it.2 ha.sc om) ?_
        rintro _ w ⟨G9, W9, hG9, rfl, hW9, hK⟩
        refine soS hK Ty.i30 0 rfl rfl rfl rfl (WdS.one hW9) rfl ?_
        intro w hK
        refine nl <| thn <| rt <| bkr <| thr <| pg1r (rvS hK Ty.a30 Ty.s30 0 rfl rfl rfl) <| ?_
        rw [hd]
        exact ⟨G9, W9, rs, hG9, rfl, hW9, hK.drop1.drop1.drop1⟩
       ·have hd : doW wd kd a b c = rgW wd kd a b := by unfold doW; rw [if_neg g1', if_neg g2, if_neg g3', if_neg g4, if_neg g5]
        refine sk <| bkn <| thn <| sq <| rg <| ?_
        refine vl (lsO hK Ty.a30 Ty.s30 2 rfl rfl rfl) <| vl (lsO hK Ty.a98 Ty.s98 1 rfl rfl rfl) <| ?_
        refine cl Tryz.call123 rfl (l51Ring_c hK hW) ?_
        rintro _ w ⟨G9, W9, q9, hG9, rfl, hW9, hK⟩
        refine soS hK Ty.i30 0 rfl rfl rfl rfl (WdS.one hW9) rfl ?_
        intro w hK
        refine nl <| thn <| rt <| pg1r (rvS hK Ty.a30 Ty.s30 0 rfl rfl rfl) <| ?_
        rw [hd]
        exact ⟨G9, W9, q9, hG9, rfl, hW9, hK.drop1.drop1.drop1⟩
end
end Go.Proofs.YtoaeogpnbpaojaaGreat

namespace Go.Proofs.YtoaeogpnbpaojaaGreat
open Go Go.Ro

section
variable {e w : World} {G : View} {L A : Own} {v u : Value} {rs qs : List Rn} {W W' : Wv} {wd wd' : Wd} {a b c k kd : Int}

end
end Go.Proofs.YtoaeogpnbpaojaaGreat