/- Plays of a world: contracts. The program's repair of a ring: by one node, by all, until nothing changes. The program's rounds of a ring, and quiet periods. Conditions: those that each row states. -/
import Derived.Test.YtmfolinemnlnbaaGreatDoorWt
import Derived.Test.YtmfolinemnlnbaaGreatDoorWd5
import Derived.Test.YtmfolinemnlnbaaGreatDoorDr
import Derived.Test.YtmfolinemnlnbaaGreatDoorWa
import Derived.Test.YtmfolinemnlnbaaGreatDoorWe
import Derived.Test.YtmfolinemnlnbaaGreatDoorOx
import Derived.Test.YtmfolinemnlnbaaGreatDoorLw
import Derived.Test.YtmfolinemnlnbaaGreatDoorWo
namespace Go.Proofs.YtmfolinemnlnbaaGreatDoor
open Go Go.Ro Tryz
section
variable {e w : World} {G : View} {L A : Own} {v u cva : Value} {xs ys code : List Int} {es : List Ev} {rs qs : List Rn} {W W' : Wv} {wd wd' : Wd} {a b c k kd p : Int} {a0 a1 : Addr} {rb : Nat}
theorem implWorldNewO_c (hK : K e w G L) (hv : IntS G v xs) : Ret prog 54 #[v] w (fun r w' => ∃ G' W wd rs b, r = .tuple #[.agg (wc W).toArray, .bool b] ∧ VLe G G' ∧ WdS G' lc W wd rs ∧ (b = true ↔ NdsOk xs ∧ 3 ≤ xs.length) ∧ (W.i = .slice none 0 0 ∧ W.s = .slice none 0 0) ∧ wd = (if b then newW xs else wdZ) ∧ K e w' G' L) := by
 have hle := hv.le
 refine enterG2 (args := [v]) func54 rfl rfl rfl rfl ?_
 refine sq <| rg <| ?_
 refine al hK Ty.i30 rfl ?_
 intro b2 w hK
 refine vl (aB rfl) <| nl <| thn <| sq <| rg <| vl mv <| ?_
 refine cl call71 rfl (implRingNew_c hK hv) ?_
 rintro _ w ⟨G1, u, rs, b, rfl, hG1, hR, hb, hrg, hK⟩
 refine vl mv <| vl (ext rfl rfl) <| vl (ext rfl rfl) <| vl asg <| vl (aB rfl) <| nl <| thn <| sq <| sq <| rg <| vl (mB rfl) <| vl (ntB rfl) <| nl <| thn <| ?_
 refine cdB rfl (fun h1 => ?_) fun h1 => ?_
 ·have h1' : b = false := Eq.mp (Bool.not_eq_true' _) h1
  refine sq <| rg <| ?_
  refine vl (bd [] Ty.p30 Ty.i30 rfl trivial rfl) <| ?_
  refine soS hK Ty.i30 0 rfl rfl rfl rfl rfl rfl ?_
  intro w hK
  refine vl (aB rfl) <| nl <| thn <| rt <| thr <| pg2r (rvS hK Ty.a30 Ty.s30 0 rfl rfl rfl) (rvT (v := .bool _) rfl) <| ?_
  exact ⟨G1, ⟨0, .slice none 0 0, .slice none 0 0, .slice none 0 0, 0, .slice none 0 0, .slice none 0 0⟩, wdZ, [], false, rfl, hG1, WdS.zero, by rw [← hb, h1'], ⟨rfl, rfl⟩, rfl, hK.drop1⟩
 ·have h1' : b = true := Eq.mp (Bool.not_eq_false' _) h1
  have hok := hb.1 h1'
  rw [h1'] at hrg
  have hidl : ids (rgl rs) = xs := by rw [hrg]; exact ids_idl xs
  have hlen : rs.length = xs.length := by rw [← rg_len, hrg]; simp [idl]
  refine sk <| thn <| sq <| rg <| ?_
  refine vl mv <| vl mv <| ?_
  refine cl call66 rfl (leasesFor_c hK hR (by have := hok.1.1; omega) om om) ?_
  rintro l w ⟨A, ho, hK⟩
  rw [hidl] at ho
  obtain ⟨G2, hG2, hl, hK⟩ := K.pubE (c := lc) (xs := xs.map fun i => (i, i, min (0 + 20) 999)) (fun _ => rfl) hK (by rw [List.length_map, ← hlen]; exact ho)
  refine vl (bd [(1, _), (2, _)] Ty.p30 Ty.i30 rfl ⟨⟨rfl, one_cells hR.sl.1.one⟩, ⟨rfl, one_cells hl.1.one⟩, trivial⟩ rfl) <| ?_
  refine soS hK Ty.i30 0 rfl rfl rfl rfl (allc rfl (allc hR.sl.1.one (allc hl.1.one (allc rfl (allc rfl (allc rfl (allc rfl rfl))))))) rfl ?_
  intro w hK
  refine vl (aB rfl) <| nl <| thn <| rt <| pg2r (rvS hK Ty.a30 Ty.s30 0 rfl rfl rfl) (rvT (v := .bool _) rfl) <| ?_
  exact ⟨G2, ⟨0, u, l, .slice none 0 0, 0, .slice none 0 0, .slice none 0 0⟩, newW xs, rs, true, rfl, hG1.trans hG2, ⟨rfl, hR.mono hG2, hrg, hl, SlR.lit0, rfl, SlR.lit0, SlR.lit0⟩, by simp [hok], ⟨rfl, rfl⟩, rfl, (K.sl hK (by repeat' (first | exact List.Sublist.refl _ | refine List.Sublist.cons _ ?_)))⟩
theorem WdO.fresh {tI tS : TypeId} (h : WdS G lc W wd rs) (hi : W.i = .slice none 0 0) (hs : W.s = .slice none 0 0) (h1 : wd.items = []) (h2 : wd.since = []) : WdO G lc tI tS W wd rs [] [] :=
 ⟨h.now, h.ring, h.rg, h.leases, by rw [hi, h1]; exact .inl (OS.nil _ _), h.next, h.told, by rw [hs, h2]; exact .inl (OS.nil _ _)⟩
set_option maxHeartbeats 1000000 in
theorem implWorldPlay_c (hE : ErrS 216 0 1 G a0 a1) (hK : K e w G L) (hv : IntS G v xs) (hu : EvS G u es) :
  Ret prog 18 #[v, u] w (fun r w' => ∃ G' W wd rs b, r = .tuple #[.agg (wc W).toArray, .bool b] ∧ VLe G G' ∧ WdS G' lc W wd rs ∧ (b = true ↔ PlOk xs es) ∧ wd = (if b then plF xs es else wdZ) ∧ K e w' G' L) := by
 have hle := hu.1.le
 refine enterG2 (args := [v, u]) func18 rfl rfl rfl rfl ?_
 refine sq <| rg <| ?_
 refine al hK Ty.i30 rfl ?_
 intro b4 w hK
 refine vl (aB rfl) <| nl <| thn <| sq <| rg <| vl mv <| ?_
 refine cl call54 rfl (implWorldNewO_c hK hv) ?_
 rintro _ w ⟨G1, W, wd, rs, b, rfl, hG1, hW, hb, ⟨hWi, hWs⟩, hwd, hK⟩
 refine vl mv <| vl (ext rfl rfl) <| vl (ext rfl rfl) <| ?_
 refine al hK Ty.i30 rfl ?_
 intro b6 w hK
 refine soS hK Ty.i30 0 rfl rfl rfl rfl (WdS.one hW) rfl ?_
 intro w hK
 refine vl (aB rfl) <| nl <| thn <| sq <| sq <| rg <| vl (mB rfl) <| vl (ntB rfl) <| vl (mB rfl) <| ?_
 refine spl (t := 18) rfl (fun h1 => ?_) fun h1 => ?_
 ·have h1' : b = false := Eq.mp (Bool.not_eq_true' _) h1
  refine gn rfl <| gn rfl <| gn rfl <| vl (pk rfl) <| nl <| thn <| ?_
  refine cdt rfl ?_
  refine sq <| rg <| ?_
  refine vl (bd [] Ty.p30 Ty.i30 rfl trivial rfl) <| ?_
  refine soS hK Ty.i30 1 rfl rfl rfl rfl rfl rfl ?_
  intro w hK
  refine vl (aB rfl) <| nl <| thn <| rt <| thr <| pg2r (rvS hK Ty.a30 Ty.s30 1 rfl rfl rfl) (rvT (v := .bool _) rfl) <| ?_
  exact ⟨G1, ⟨0, .slice none 0 0, .slice none 0 0, .slice none 0 0, 0, .slice none 0 0, .slice none 0 0⟩, wdZ, [], false, rfl, hG1, WdS.zero, ⟨fun h => (by cases h), fun h => (by rw [hb.2 h.1] at h1'; cases h1')⟩, rfl, hK.drop1.drop1⟩
 ·have h1' : b = true := Eq.mp (Bool.not_eq_false' _) h1
  have hok := hb.1 h1'
  rw [h1', if_pos rfl] at hwd
  refine gy rfl <| vl mv <| gy rfl <| vl (ln underlying43 rfl hu.len) <| gy rfl <| vl (gt rfl rfl) <| vl (pk rfl) <| nl <| thn <| ?_
  refine cdP rfl (fun h2 => ?_) fun h2 => ?_
  ·refine sq <| rg <| ?_
   refine vl (bd [] Ty.p30 Ty.i30 rfl trivial rfl) <| ?_
   refine soS hK Ty.i30 1 rfl rfl rfl rfl rfl rfl ?_
   intro w hK
   refine vl (aB rfl) <| nl <| thn <| rt <| thr <| pg2r (rvS hK Ty.a30 Ty.s30 1 rfl rfl rfl) (rvT (v := .bool _) rfl) <| ?_
   exact ⟨G1, ⟨0, .slice none 0 0, .slice none 0 0, .slice none 0 0, 0, .slice none 0 0, .slice none 0 0⟩, wdZ, [], false, rfl, hG1, WdS.zero, ⟨fun h => (by cases h), fun h => (by have := h.2; omega)⟩, rfl, hK.drop1.drop1⟩
  ·have hpl : PlOk xs es := ⟨hok, by omega⟩
   have hO : WdO G1 lc 54 3 W wd rs [] [] := WdO.fresh hW hWi hWs (by rw [hwd]; rfl) (by rw [hwd]; rfl)
   refine sk <| thn <| sq <| rg <| ?_
   refine vl (lsO hK Ty.a30 Ty.s30 0 rfl rfl rfl) <| vl (bd [(1, _)] Ty.p73 Ty.i73 rfl ⟨⟨rfl, rfl⟩, trivial⟩ rfl) <| ?_
   refine bx hK rfl rfl ?_
   intro b26 w hK
   refine vl asg <| nl <| thn <| sq <| sq <| rg <| vl mv <| vl (ln underlying43 rfl hu.len) <| vl (mI rfl) <| nl <| thn <| bk <| ?_
   replace hK : K e w G1 ((b26, row (.int .i32 0 :: .int .u32 0 :: wc W) 73) :: (b6, row (wc W) 30) :: (b4, row [.int .i64 0, .slice none 0 0, .slice none 0 0, .slice none 0 0, .int .i64 0, .slice none 0 0, .slice none 0 0] 30) :: L) := hK
   replace hK : K _ _ _ ((b26, row (.int .i32 0 :: .int .u32 0 :: wc W) 73) :: (b4, row [.int .i64 0, .slice none 0 0, .slice none 0 0, .slice none 0 0, .int .i64 0, .slice none 0 0, .slice none 0 0] 30) :: (b6, row (wc W) 30) :: L) := hK.reo
   refine lp (σ := Nat × View × Wv × List Rn × Own × Own) (fun s => [(4, .pointer (some ⟨b4, 0, none⟩)), (5, .bool false), (8, .pointer (some ⟨b26, 0, none⟩)), (27, u), (28, .int .i64 (es.length : Int)), (29, .int .i64 (s.1 : Int))]) (fun s w => s.1 ≤ es.length ∧ VLe G1 s.2.1 ∧ WdO s.2.1 lc 54 3 s.2.2.1 (plE wd (es.take s.1)) s.2.2.2.1 s.2.2.2.2.1 s.2.2.2.2.2 ∧ K e w s.2.1 ((b26, row (.int .i32 0 :: .int .u32 0 :: wc s.2.2.1) 73) :: (b4, row [.int .i64 0, .slice none 0 0, .slice none 0 0, .slice none 0 0, .int .i64 0, .slice none 0 0, .slice none 0 0] 30) :: (b6, row (wc W) 30) :: (s.2.2.2.2.1 ++ (s.2.2.2.2.2 ++ L)))) (fun s => es.length - s.1) (0, G1, W, rs, [], []) ⟨rfl, rfl, rfl, rfl, rfl, rfl, trivial⟩ ⟨Nat.zero_le _, VLe.refl _, hO, hK⟩ ?_
   clear hO hK
   rintro ⟨i, G2, W2, q2, AI, AS⟩ g w ⟨hi, hG2, hW2, hK⟩
   simp only at hi hG2 hW2 hK
   replace hu := EF.mono hu (hG1.trans hG2)
   refine sq <| rg <| ?_
   refine vl (lt rfl rfl) <| nl <| thn <| sq <| ?_
   refine cdP rfl (fun hc => ?_) fun hc => ?_
   ·have hi' : i < es.length := by simp only at hc; omega
    refine sk <| thn <| sq <| bk <| sq <| rg <| ?_
    refine vl (ixm (m := i) underlying43 Ty.s32 rfl hu.1 rfl om om) <| vl (lsF hK Ty.a32 Ty.s32 rfl hu om) <| ?_
    refine al hK Ty.i32 rfl ?_
    intro b10 w hK
    refine soS hK Ty.i32 0 rfl rfl rfl rfl (by rfl) rfl ?_
    intro w hK
    refine nl <| thn <| rg <| vl mv <| vl (lsO hK Ty.a32 Ty.s32 0 rfl rfl rfl) <| ?_
    replace hK : K e w G2 ((b10, row (ec es[i].1 es[i].2.1 es[i].2.2.1 es[i].2.2.2) 32) :: (b26, row (.int .i32 0 :: .int .u32 0 :: wc W2) 73) :: (b4, row [.int .i64 0, .slice none 0 0, .slice none 0 0, .slice none 0 0, .int .i64 0, .slice none 0 0, .slice none 0 0] 30) :: (b6, row (wc W) 30) :: (AI ++ (AS ++ L))) := hK
    replace hK : K _ _ _ ((b26, row (.int .i32 0 :: .int .u32 0 :: wc W2) 73) :: (AI ++ (AS ++ ((b10, row (ec es[i].1 es[i].2.1 es[i].2.2.1 es[i].2.2.2) 32) :: (b6, row (wc W) 30) :: (b4, row [.int .i64 0, .slice none 0 0, .slice none 0 0, .slice none 0 0, .int .i64 0, .slice none 0 0, .slice none 0 0] 30) :: L)))) := hK.reo
    refine cl call35 rfl (do_c (hE.mono (hG1.trans hG2)) hW2 (plE_ok _ (by rw [hwd]; exact newW_ok hok.1 hok.2)) hK) ?_
    rintro _ w ⟨rfl, G3, W3, q3, AI3, AS3, hG3, hW3, hK⟩
    replace hK : K _ _ _ ((b10, row (ec es[i].1 es[i].2.1 es[i].2.2.1 es[i].2.2.2) 32) :: (b26, row (.int .i32 0 :: .int .u32 0 :: wc W3) 73) :: (b4, row [.int .i64 0, .slice none 0 0, .slice none 0 0, .slice none 0 0, .int .i64 0, .slice none 0 0, .slice none 0 0] 30) :: (b6, row (wc W) 30) :: (AI3 ++ (AS3 ++ L))) := hK.reo
    refine nl <| bkn <| thn <| rg <| vl (ad rfl rfl) <| vl (mI rfl) <| nl <| thn <| ?_
    exact ⟨(i + 1, G3, W3, q3, AI3, AS3), ⟨rfl, rfl, rfl, rfl, rfl, rfl, trivial⟩, ⟨hi', hG2.trans hG3, by rw [plE_take hi']; exact hW3, hK.drop1⟩, by simp only; omega⟩
   ·have hi' : i = es.length := by simp only at hc; omega
    subst hi'
    rw [List.take_length] at hW2
    refine ex <| the <| the <| bkh <| thn <| sq <| rg <| ?_
    refine vl mv <| vl (nc rfl) <| vl (fa underlying73 rfl Ty.z30 rfl) <| vl (lsP (u := wc W2) hK Ty.a30 Ty.s30 0 rfl rfl rfl rfl) <| ?_
    refine soS hK Ty.i30 1 rfl rfl rfl rfl (WdO.one hW2) rfl ?_
    intro w hK
    refine vl (aB rfl) <| nl <| thn <| rt <| pg2r (rvS hK Ty.a30 Ty.s30 1 rfl rfl rfl) (rvT (v := .bool _) rfl) <| ?_
    have hK2 : K e w G2 ([(b26, row (.int .i32 0 :: .int .u32 0 :: wc W2) 73), (b4, row (wc W2) 30), (b6, row (wc W) 30)] ++ (AI ++ (AS ++ L))) := hK
    obtain ⟨G3, hG3, hW3, hK3⟩ := hW2.pub hK2.dropL
    exact ⟨G3, W2, _, q2, true, rfl, (hG1.trans hG2).trans hG3, hW3, ⟨fun _ => hpl, fun _ => rfl⟩, by rw [hwd]; rfl, hK3⟩
theorem specWorldPlay_c (hK : K e w G L) (hv : IntS G v xs) (hu : EvS G u es) :
  Ret prog 19 #[v, u] w (fun r w' => ∃ G' W wd rs b, r = .tuple #[.agg (wc W).toArray, .bool b] ∧ VLe G G' ∧ WdS G' lc W wd rs ∧ (b = true ↔ PlOk xs es) ∧ wd = (if b then plF xs es else wdZ) ∧ K e w' G' L) := by
 have hle := hu.1.le
 refine enterG2 (args := [v, u]) func19 rfl rfl rfl rfl ?_
 refine sq <| rg <| ?_
 refine al hK Ty.i30 rfl ?_
 intro b4 w hK
 refine vl (aB rfl) <| nl <| thn <| sq <| rg <| vl mv <| ?_
 refine cl call52 rfl (specWorldNew_c hK hv) ?_
 rintro _ w ⟨G1, W, wd, rs, b, rfl, hG1, hW, hb, hwd, hK⟩
 refine vl mv <| vl (ext rfl rfl) <| vl (ext rfl rfl) <| ?_
 refine al hK Ty.i30 rfl ?_
 intro b6 w hK
 refine soS hK Ty.i30 0 rfl rfl rfl rfl (WdS.one hW) rfl ?_
 intro w hK
 refine vl (aB rfl) <| nl <| thn <| sq <| sq <| rg <| vl (mB rfl) <| vl (ntB rfl) <| vl (mB rfl) <| ?_
 refine spl (t := 16) rfl (fun h1 => ?_) fun h1 => ?_
 ·have h1' : b = false := Eq.mp (Bool.not_eq_true' _) h1
  refine gn rfl <| gn rfl <| gn rfl <| vl (pk rfl) <| nl <| thn <| ?_
  refine cdt rfl ?_
  refine sq <| rg <| ?_
  refine vl (bd [] Ty.p30 Ty.i30 rfl trivial rfl) <| ?_
  refine soS hK Ty.i30 1 rfl rfl rfl rfl rfl rfl ?_
  intro w hK
  refine vl (aB rfl) <| nl <| thn <| rt <| thr <| pg2r (rvS hK Ty.a30 Ty.s30 1 rfl rfl rfl) (rvT (v := .bool _) rfl) <| ?_
  exact ⟨G1, ⟨0, .slice none 0 0, .slice none 0 0, .slice none 0 0, 0, .slice none 0 0, .slice none 0 0⟩, wdZ, [], false, rfl, hG1, WdS.zero, ⟨fun h => (by cases h), fun h => (by rw [hb.2 h.1] at h1'; cases h1')⟩, rfl, hK.drop1.drop1⟩
 ·have h1' : b = true := Eq.mp (Bool.not_eq_false' _) h1
  have hok := hb.1 h1'
  rw [h1', if_pos rfl] at hwd
  have hok0 : WdOk wd := by rw [hwd]; exact newW_ok hok.1 hok.2
  refine gy rfl <| vl mv <| gy rfl <| vl (ln underlying43 rfl hu.len) <| gy rfl <| vl (gt rfl rfl) <| vl (pk rfl) <| nl <| thn <| ?_
  refine cdP rfl (fun h2 => ?_) fun h2 => ?_
  ·refine sq <| rg <| ?_
   refine vl (bd [] Ty.p30 Ty.i30 rfl trivial rfl) <| ?_
   refine soS hK Ty.i30 1 rfl rfl rfl rfl rfl rfl ?_
   intro w hK
   refine vl (aB rfl) <| nl <| thn <| rt <| thr <| pg2r (rvS hK Ty.a30 Ty.s30 1 rfl rfl rfl) (rvT (v := .bool _) rfl) <| ?_
   exact ⟨G1, ⟨0, .slice none 0 0, .slice none 0 0, .slice none 0 0, 0, .slice none 0 0, .slice none 0 0⟩, wdZ, [], false, rfl, hG1, WdS.zero, ⟨fun h => (by cases h), fun h => (by have := h.2; omega)⟩, rfl, hK.drop1.drop1⟩
  ·have hpl : PlOk xs es := ⟨hok, by omega⟩
   refine sk <| thn <| sq <| sq <| rg <| ?_
   refine vl (aI rfl) <| nl <| thn <| bk <| ?_
   refine lp (σ := Nat × View × Wv × List Rn) (fun s => [(1, u), (4, .pointer (some ⟨b4, 0, none⟩)), (5, .bool false), (6, .pointer (some ⟨b6, 0, none⟩)), (8, .int .i64 (s.1 : Int))]) (fun s w => s.1 ≤ es.length ∧ VLe G1 s.2.1 ∧ WdS s.2.1 lc s.2.2.1 (plE wd (es.take s.1)) s.2.2.2 ∧ K e w s.2.1 ((b6, row (wc s.2.2.1) 30) :: (b4, row [.int .i64 0, .slice none 0 0, .slice none 0 0, .slice none 0 0, .int .i64 0, .slice none 0 0, .slice none 0 0] 30) :: L)) (fun s => es.length - s.1) (0, G1, W, rs) ⟨rfl, rfl, rfl, rfl, rfl, trivial⟩ ⟨Nat.zero_le _, VLe.refl _, hW, hK⟩ ?_
   clear hW hK
   rintro ⟨i, G2, W2, q2⟩ g w ⟨hi, hG2, hW2, hK⟩
   simp only at hi hG2 hW2 hK
   replace hu := EF.mono hu (hG1.trans hG2)
   refine sq <| sq <| rg <| ?_
   refine vl (mI rfl) <| vl mv <| vl (ln underlying43 rfl hu.len) <| vl (lt rfl rfl) <| nl <| thn <| ?_
   refine cdP rfl (fun hc => ?_) fun hc => ?_
   ·have hi' : i < es.length := by simp only at hc; omega
    have hok2 : WdOk (plE wd (es.take i)) := plE_ok _ hok0
    refine sk <| thn <| sq <| bk <| ?_
    refine rgs (fun w => K e w G2 L) (fun w => K _ w _ _) [U,U,U,U,U,U,U] 7 Ty.mixed rfl rfl (hK.drawn _) ?_
    intro w hK
    have hS : (fun w => K e w G2 L) w := K.sl hK
    refine xt (i := 1) rfl kr rfl rfl (fun w hK => mv) hS <| xt (i := 2) rfl kr rfl rfl (fun w hK => (mI rfl)) hS <| xt (i := 3) rfl kr rfl rfl (fun w hK => (ixm (m := i) underlying43 Ty.s32 rfl hu.1 rfl om om)) hS <| xt (i := 4) rfl kr rfl rfl (fun w hK => (lsF hK Ty.a32 Ty.s32 rfl hu om)) hS <| ?_
    refine xe (i := 0) kr rfl rfl ?_
    refine vl (lsO hK Ty.a30 Ty.s30 0 rfl rfl rfl) <| ?_
    refine xnk (K.sl hK) fun hS => ?_
    refine xe (i := 5) kr rfl rfl ?_
    refine cl call37 rfl (l51Do_c (kd := es[i].1) (a := es[i].2.1) (b := es[i].2.2.1) (c := es[i].2.2.2) hK hW2 hok2.wda) ?_
    rintro _ w ⟨G3, W3, q3, hG3, rfl, hW3, hK⟩
    refine xnk ((K.vle (K.sl hK) hG3)) fun hS => ?_
    refine xe (i := 6) kr rfl rfl ?_
    refine soS hK Ty.i30 0 rfl rfl rfl rfl (WdS.one hW3) rfl ?_
    intro w hK
    refine xnk ((K.vle (K.sl hK) hG3)) fun hS => ?_
    refine xd kr <| bkn <| thn <| rg <| vl (mI rfl) <| vl (ad rfl rfl) <| vl (aI rfl) <| nl <| thn <| ?_
    exact ⟨(i + 1, G3, W3, q3), ⟨rfl, rfl, rfl, rfl, rfl, trivial⟩, ⟨hi', hG2.trans hG3, by rw [plE_take hi']; exact hW3, hK⟩, by simp only; omega⟩
   ·have hi' : i = es.length := by simp only at hc; omega
    subst hi'
    rw [List.take_length] at hW2
    have hd : WdOk (plE wd es) := plE_ok _ hok0
    refine ex <| the <| the <| bkh <| thn <| sq <| rg <| ?_
    refine vl (lsO hK Ty.a30 Ty.s30 0 rfl rfl rfl) <| ?_
    refine cl call36 rfl (l51Copy_c hK hW2 hd.2.1.1 (by have := hd.2.2.1.1; omega) (by have := hd.wda.zl; omega) (by have := hd.2.2.2.2.1.2.1.len; omega) (by have := hd.2.2.2.2.2.1.len; omega)) ?_
    rintro _ w ⟨G3, W3, q3, hG3, rfl, hW3, hK⟩
    refine soS hK Ty.i30 1 rfl rfl rfl rfl (WdS.one hW3) rfl ?_
    intro w hK
    refine vl (aB rfl) <| nl <| thn <| rt <| pg2r (rvS hK Ty.a30 Ty.s30 1 rfl rfl rfl) (rvT (v := .bool _) rfl) <| ?_
    exact ⟨G3, W3, _, q3, true, rfl, (hG1.trans hG2).trans hG3, hW3, ⟨fun _ => hpl, fun _ => rfl⟩, by rw [hwd]; rfl, hK.drop1.drop1⟩
end
open Go Go.Ro Tryz
section
variable {e w : World} {G : View} {L A : Own} {v u : Value} {rs qs : List Rn} {id other k : Int} {i j : Nat}
end
open Go Go.Ro Tryz
section
variable {e w : World} {G : View} {L A : Own} {v u : Value} {rs qs : List Rn} {W W' : Wv} {wd wd' : Wd} {id other k : Int} {i j : Nat}
end
end Go.Proofs.YtmfolinemnlnbaaGreatDoor
