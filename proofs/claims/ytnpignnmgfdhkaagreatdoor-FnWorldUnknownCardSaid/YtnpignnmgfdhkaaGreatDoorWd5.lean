/- The contract of the specification's events of a world from outside. Conditions: those that each row states. -/
import Derived.Test.YtnpignnmgfdhkaaGreatDoorWd4
import Derived.Test.YtnpignnmgfdhkaaGreatDoorStM
namespace Go.Proofs.YtnpignnmgfdhkaaGreatDoor
open Go Go.Ro

section
variable {e w : World} {G : View} {L A : Own} {v u : Value} {rs qs : List Rn} {W W' : Wv} {wd wd' : Wd} {a b c k kd : Int}

theorem specWorldDo_c (hK : K e w G L) (hW : WdS G lc W wd rs) (hzl : wd.items.length ≤ 1000000) : Ret Tryz.prog 11 #[.agg (wc W).toArray, .agg (ec kd a b c).toArray] w (fun r w' => ∃ G' W' rs', VLe G G' ∧ r = .agg (wc W').toArray ∧ WdS G' lc W' (wdF wd kd a b c) rs' ∧ K e w' G' L) := by
 refine enterG1 (args := [.agg (wc W).toArray, .agg (ec kd a b c).toArray]) Tryz.func11 rfl rfl rfl rfl ?_
 refine sq <| rg <| ?_
 refine bx hK rfl rfl ?_
 intro b2 w hK
 refine bx hK rfl rfl ?_
 intro b3 w hK
 refine al hK Ty.i30 rfl ?_
 intro b4 w hK
 refine nl <| thn <| sq <| sq <| rg <| vl (lsO hK Ty.a30 Ty.s30 2 rfl rfl rfl) <| ?_
 refine cl Tryz.call13 rfl (specWorldValid_c hK hW om) ?_
 rintro _ w ⟨rfl, hK⟩
 refine vl (ntB rfl) <| nl <| thn <| ?_
 refine cdB rfl (fun h1 => ?_) (fun h1 => ?_)
 ·have h1' := not_dec (Eq.mp (Bool.not_eq_true' _) h1)
  have hw : wdF wd kd a b c = wdZ := wdF_no h1'
  refine sq <| rg <| ?_
  refine vl (bd [] Ty.p30 Ty.i30 rfl trivial rfl) <| ?_
  refine soS hK Ty.i30 0 rfl rfl rfl rfl rfl rfl ?_
  intro w hK
  refine nl <| thn <| rt <| thr <| pg1r (rvS hK Ty.a30 Ty.s30 0 rfl rfl rfl) <| ?_
  rw [hw]
  exact ⟨G, _, [], VLe.refl _, rfl, WdS.zero, hK.drop1.drop1.drop1⟩
 ·have h1' := of_dec (Eq.mp (Bool.not_eq_false' _) h1)
  have hw : wdF wd kd a b c = doW wd kd a b c := wdF_yes h1'
  have hd := doW_ok h1' kd a b c
  refine sk <| thn <| sq <| rg <| ?_
  refine vl (lsO hK Ty.a30 Ty.s30 2 rfl rfl rfl) <| vl (lsO hK Ty.a32 Ty.s32 1 rfl rfl rfl) <| ?_
  refine cl Tryz.call26 rfl (l51Do_c hK hW h1'.wda) ?_
  rintro _ w ⟨G1, W1, rs1, hG1, rfl, hW1, hK⟩
  refine cl Tryz.call25 rfl (l51Copy_c hK hW1 hd.2.1.1 (by have := hd.2.2.1.1; omega) (by have := hd.wda.zl; omega) (by have := hd.2.2.2.2.1.2.1.len; omega) (by have := hd.2.2.2.2.2.1.len; omega)) ?_
  rintro _ w ⟨G2, W2, rs2, hG2, rfl, hW2, hK⟩
  refine soS hK Ty.i30 0 rfl rfl rfl rfl (WdS.one hW2) rfl ?_
  intro w hK
  refine nl <| thn <| rt <| pg1r (rvS hK Ty.a30 Ty.s30 0 rfl rfl rfl) <| ?_
  rw [hw]
  exact ⟨G2, W2, rs2, hG1.trans hG2, rfl, hW2, hK.drop1.drop1.drop1⟩
end
end Go.Proofs.YtnpignnmgfdhkaaGreatDoor
