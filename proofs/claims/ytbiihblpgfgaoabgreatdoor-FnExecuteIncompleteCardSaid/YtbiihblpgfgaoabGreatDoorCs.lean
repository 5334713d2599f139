/- The program's rounds of a ring, and quiet periods. The specification's rounds of a ring, and quiet periods; the law on their items. Conditions: those that each row states. -/
import Derived.Test.YtbiihblpgfgaoabGreatDoorSb
import Derived.Test.YtbiihblpgfgaoabGreatDoorLw
import Derived.Test.YtbiihblpgfgaoabGreatDoorDw
import Derived.Test.YtbiihblpgfgaoabGreatDoorWv
import Derived.Test.YtbiihblpgfgaoabGreatDoorPlM
import Derived.Test.YtbiihblpgfgaoabGreatDoorBs
namespace Go.Proofs.YtbiihblpgfgaoabGreatDoor
open Go Go.Ro Tryz
section
variable {e w : World} {G : View} {L A : Own} {v u : Value} {rs qs : List Rn} {W W' : Wv} {wd wd' : Wd} {id other k : Int} {i j : Nat}
theorem rnd_take {r : List Nd} {ks : List Int} {n : Nat} (h : n < ks.length) : rndR r (ks.take (n + 1)) = stabR (rndR r (ks.take n)) ks[n] := by
 rw [List.take_succ_eq_append_getElem h]; unfold rndR; rw [List.foldl_append]; rfl
theorem implRound_c (hK : K e w G L) (hv : RngS G v rs) (hsf : RgSafe (rgl rs)) :
  Ret prog 132 #[v] w (fun r w' => ∃ G' rs', VLe G G' ∧ RngS G' r rs' ∧ rgl rs' = rnd (rgl rs) ∧ K e w' G' L) := by
 have hlen : rs.length ≤ 10 := by rw [← rg_len]; exact hsf.1.1
 refine enter1 (args := [v]) func132 rfl rfl rfl rfl ?_
 refine sq <| rg <| ?_
 refine vl asg <| nl <| thn <| sq <| sq <| rg <| vl mv <| ?_
 refine cl call121 rfl (implRingSafe_c hK hv) ?_
 rintro _ w ⟨rfl, hK⟩
 refine vl (ntB rfl) <| nl <| thn <| ?_
 refine cdB rfl (fun h1 => ?_) fun h1 => ?_
 ·exact absurd hsf (not_dec (Eq.mp (Bool.not_eq_true' _) h1))
 ·refine sk <| thn <| sq <| rg <| ?_
  refine vl mv <| ?_
  refine cl call127 rfl (copyRing_v hK hv hsf.1) ?_
  rintro v1 w ⟨G1, rs1, hG1, hr1, hv1, hK⟩
  refine vl asg <| nl <| thn <| sq <| sq <| rg <| vl mv <| ?_
  refine cl call168 rfl (idsOf_c hK (hv.mono hG1) om) ?_
  rintro u w ⟨A, ho, hK⟩
  rw [show ints (rs.map (·.1)) = ints (ids (rgl rs)) by rw [ids_rg], show rs.length = (ids (rgl rs)).length by rw [ids_rg, List.length_map]] at ho
  obtain ⟨G2, hG2, hu, hK⟩ := K.pubO hK ho
  have hG := hG1.trans hG2
  have hv2 := hv1.mono hG2
  have hil : (ids (rgl rs)).length = rs.length := by rw [ids_len, rg_len]
  refine vl (ln underlying35 rfl hu.len) <| vl (mI rfl) <| nl <| thn <| bk <| ?_
  refine lp (σ := Nat × View × Value × List Rn) (fun s => [(3, s.2.2.1), (14, u), (15, .int .i64 ((ids (rgl rs)).length : Int)), (16, .int .i64 (s.1 : Int))]) (fun s w => s.1 ≤ (ids (rgl rs)).length ∧ VLe G2 s.2.1 ∧ RngS s.2.1 s.2.2.1 s.2.2.2 ∧ rgl s.2.2.2 = rndR (rgl rs) ((ids (rgl rs)).take s.1) ∧ K e w s.2.1 L) (fun s => (ids (rgl rs)).length - s.1) (0, G2, v1, rs1) ⟨rfl, rfl, rfl, rfl, trivial⟩ ⟨Nat.zero_le _, VLe.refl _, hv2, hr1, hK⟩ ?_
  clear hK hv1 hv2 hr1
  rintro ⟨n, G3, v3, rs3⟩ g w ⟨hn, hG3, hv3, hr3, hK⟩
  simp only at hn hG3 hv3 hr3 hK
  replace hu := hu.mono hG3
  refine sq <| rg <| ?_
  refine vl (lt rfl rfl) <| nl <| thn <| sq <| ?_
  refine cdP rfl (fun hc => ?_) fun hc => ?_
  ·have hn' : n < (ids (rgl rs)).length := by simp only at hc; omega
   have hs3 : RgSafe (rgl rs3) := by rw [hr3]; exact rndR_safe _ hsf
   have hi3 : (ids (rgl rs))[n] ∈ ids (rgl rs3) := by rw [hr3, rndR_ids]; exact List.getElem_mem _
   refine sk <| thn <| sq <| bk <| sq <| rg <| ?_
   refine vl (ixm1 (m := n) underlying35 Ty.s3 rfl hu.1 rfl om om) <| vl (ldV hK Ty.o3 rfl (hu.at om)) <| vl (aI rfl) <| nl <| thn <| sq <| rg <| vl mv <| vl (mI rfl) <| ?_
   refine cl call169 rfl (implStabilize_c hK hv3 hs3 hi3) ?_
   rintro _ w ⟨G4, v4, rs4, hG4, rfl, hv4, hr4, hK⟩
   refine vl mv <| vl (ext rfl rfl) <| vl (ext rfl rfl) <| vl asg <| vl (aB rfl) <| nl <| thn <| sq <| rg <| vl (mB rfl) <| nl <| thn <| ?_
   refine cdB rfl (fun h2 => ?_) fun h2 => ?_
   ·refine rg <| ?_
    refine vl mv <| vl asg <| nl <| bkn <| thn <| rg <| vl (ad rfl rfl) <| vl (mI rfl) <| nl <| thn <| ?_
    exact ⟨(n + 1, G4, v4, rs4), ⟨rfl, rfl, rfl, rfl, trivial⟩, ⟨hn', hG3.trans hG4, hv4, by rw [hr4, hr3, rnd_take hn'], hK⟩, by simp only; omega⟩
   ·cases h2
  ·have hn' : n = (ids (rgl rs)).length := by simp only at hc; omega
   subst hn'
   rw [List.take_length] at hr3
   refine ex <| the <| the <| bkh <| thn <| sq <| rg <| ?_
   refine vl mv <| vl asg <| nl <| thn <| rt <| p1r (a := _) rfl <| ?_
   exact ⟨G3, rs3, hG.trans hG3, hv3, hr3, hK⟩
theorem implRingCalm_c (hK : K e w G L) (hv : RngS G v rs) (hsf : RgSafe (rgl rs)) :
  Ret prog 80 #[v] w (fun r w' => ∃ G' rs', VLe G G' ∧ RngS G' r rs' ∧ rgl rs' = idl (ids (rgl rs)) ∧ K e w' G' L) := by
 rw [← calR_ideal hsf]
 refine enter1 (args := [v]) func80 rfl rfl rfl rfl ?_
 refine sq <| rg <| ?_
 refine vl asg <| nl <| thn <| sq <| rg <| vl mv <| ?_
 refine cl call127 rfl (copyRing_v hK hv hsf.1) ?_
 rintro v1 w ⟨G1, rs1, hG1, hr1, hv1, hK⟩
 refine vl asg <| nl <| thn <| bk <| ?_
 refine lp (σ := View × Value × List Rn) (fun s => [(3, s.2.1)]) (fun s w => VLe G1 s.1 ∧ RngS s.1 s.2.1 s.2.2 ∧ RgSafe (rgl s.2.2) ∧ calR (rgl s.2.2) = calR (rgl rs) ∧ K e w s.1 L) (fun s => msr (rgl s.2.2)) (G1, v1, rs1) ⟨rfl, trivial⟩ ⟨VLe.refl _, hv1, by rw [hr1]; exact hsf, by rw [hr1], hK⟩ ?_
 clear hK hv1 hr1
 rintro ⟨G2, v2, rs2⟩ g w ⟨hG2, hv2, hs2, hc2, hK⟩
 simp only at hG2 hv2 hs2 hc2 hK
 refine bk <| sq <| rg <| ?_
 refine vl mv <| ?_
 refine cl call132 rfl (implRound_c hK hv2 hs2) ?_
 rintro v3 w ⟨G3, rs3, hG3, hv3, hr3, hK⟩
 refine vl asg <| nl <| thn <| sq <| sq <| rg <| vl mv <| vl mv <| ?_
 refine cl call133 rfl (implSameRing_c hK hv3 (hv2.mono hG3)) ?_
 rintro _ w ⟨rfl, hK⟩
 refine nl <| thn <| ?_
 refine cdB rfl (fun h1 => ?_) fun h1 => ?_
 ·have he := of_dec h1
  refine sq <| rg <| ?_
  refine vl mv <| vl asg <| nl <| thn <| rt <| thr <| bkr <| thr <| bkr <| p1r (a := _) rfl <| ?_
  exact ⟨G3, rs3, (hG1.trans hG2).trans hG3, hv3, by rw [← hc2, calR_same (hr3.symm.trans he), he], hK⟩
 ·have he := not_dec h1
  have hst := calR_step hs2 (fun h => he (hr3.trans h))
  refine sk <| thn <| rg <| ?_
  refine vl mv <| vl asg <| nl <| bkn <| thn <| ?_
  exact ⟨(G3, v3, rs3), ⟨rfl, trivial⟩, ⟨hG2.trans hG3, hv3, by rw [hr3]; exact rnd_safe hs2, by rw [hr3, ← hst.1]; exact hc2, hK⟩, by simp only; rw [hr3]; exact hst.2⟩
set_option maxHeartbeats 1000000 in
theorem implWorldCalm_c (hK : K e w G L) (hW : WdS G lc W wd rs) (hzl : wd.items.length ≤ 1000000) :
  Ret prog 50 #[.agg (wc W).toArray] w (fun r w' => ∃ G' W' rs', VLe G G' ∧ r = .agg (wc W').toArray ∧ WdS G' lc W' (calF wd) rs' ∧ K e w' G' L) := by
 refine enterG1 (args := [.agg (wc W).toArray]) func50 rfl rfl rfl rfl ?_
 refine sq <| rg <| ?_
 refine bx hK rfl rfl ?_
 intro b1 w hK
 refine al hK Ty.i39 rfl ?_
 intro b2 w hK
 refine nl <| thn <| sq <| sq <| rg <| vl (lsO hK Ty.a39 Ty.s39 1 rfl rfl rfl) <| ?_
 refine cl call78 rfl (implWorldValid_c hK hW om) ?_
 rintro _ w ⟨rfl, hK⟩
 refine vl (ntB rfl) <| nl <| thn <| ?_
 refine cdB rfl (fun h1 => ?_) fun h1 => ?_
 ·have h1' := not_dec (Eq.mp (Bool.not_eq_true' _) h1)
  refine sq <| rg <| ?_
  refine vl (bd [] Ty.p39 Ty.i39 rfl trivial rfl) <| ?_
  refine soS hK Ty.i39 0 rfl rfl rfl rfl rfl rfl ?_
  intro w hK
  refine nl <| thn <| rt <| thr <| pg1r (rvS hK Ty.a39 Ty.s39 0 rfl rfl rfl) <| ?_
  rw [calF_no h1']
  exact ⟨G, ⟨0, .slice none 0 0, .slice none 0 0, .slice none 0 0, 0, .slice none 0 0, .slice none 0 0⟩, [], VLe.refl _, rfl, WdS.zero, hK.drop1.drop1⟩
 ·have hd := of_dec (Eq.mp (Bool.not_eq_false' _) h1)
  have hsf : RgSafe (rgl rs) := by rw [hW.rg]; exact hd.2.1
  have hn0 := hd.1.1
  have hn1 := hd.1.2
  have hnw := hW.now
  refine sk <| thn <| sq <| rg <| ?_
  refine vl (lsO hK Ty.a39 Ty.s39 1 rfl rfl rfl) <| ?_
  refine cl call79 rfl (copyWorld_c hK hW hd.2.1.1 (by have := hd.2.2.1.1; omega) (by have := hd.wda.zl; omega) (by have := hd.2.2.2.2.1.2.1.len; omega) (by have := hd.2.2.2.2.2.1.len; omega)) ?_
  rintro _ w ⟨G1, W1, q1, AI, AS, hG1, rfl, hW1, hK⟩
  replace hK : K _ _ _ ((b2, row [.int .i64 0, .slice none 0 0, .slice none 0 0, .slice none 0 0, .int .i64 0, .slice none 0 0, .slice none 0 0] 39) :: (b1, row (wc W) 39) :: (AI ++ (AS ++ L))) := hK.reo
  refine al hK Ty.i39 rfl ?_
  intro b3 w hK
  refine soS hK Ty.i39 0 rfl rfl rfl rfl (WdO.one hW1) rfl ?_
  intro w hK
  refine nl <| thn <| sq <| rg <| vl (fa underlying39 rfl Ty.z32 rfl) <| vl (ldO hK Ty.o32 2 rfl rfl rfl) <| ?_
  replace hK : K e w G1 ((b3, row (wc W1) 39) :: (b2, row [.int .i64 0, .slice none 0 0, .slice none 0 0, .slice none 0 0, .int .i64 0, .slice none 0 0, .slice none 0 0] 39) :: (b1, row (wc W) 39) :: (AI ++ (AS ++ L))) := hK
  refine cl call80 rfl (implRingCalm_c hK (hW.ring.mono hG1) hsf) ?_
  rintro v2 w ⟨G2, rs2, hG2, hv2, hr2, hK⟩
  have hle2 : rs2.length = rs.length := by
   have : (rgl rs2).length = (rgl rs).length := by rw [← ids_len, ← ids_len, hr2, ids_idl]
   rw [rg_len, rg_len] at this; exact this
  have h10 := hsf.1.1
  rw [rg_len] at h10
  refine vl (fa underlying39 rfl Ty.z32 rfl) <| ?_
  refine so hK Ty.i32 rfl 0 rfl rfl rfl hv2.sl.1.one rfl ?_
  intro w hK
  refine nl <| thn <| sq <| ?_
  replace hK : K e w G2 ((b3, row (wc ⟨W1.now, v2, W1.l, W1.i, W1.next, W1.t, W1.s⟩) 39) :: (b2, row [.int .i64 0, .slice none 0 0, .slice none 0 0, .slice none 0 0, .int .i64 0, .slice none 0 0, .slice none 0 0] 39) :: (b1, row (wc W) 39) :: (AI ++ (AS ++ L))) := hK
  refine rg <| ?_
  refine vl (fa underlying39 rfl Ty.z3 rfl) <| vl (ldO hK Ty.o3 2 rfl rfl rfl) <| vl (ad rfl rfl) <| vl (ad rfl rfl) <| vl (mn rfl rfl) <| vl (fa underlying39 rfl Ty.z3 rfl) <| ?_
  refine so hK Ty.i3 rfl 0 rfl rfl rfl rfl rfl ?_
  intro w hK
  refine nl <| thn <| sq <| ?_
  replace hK : K e w G2 ((b3, row (wc ⟨min (W.now + 20 + 1) 999, v2, W1.l, W1.i, W1.next, W1.t, W1.s⟩) 39) :: (b2, row [.int .i64 0, .slice none 0 0, .slice none 0 0, .slice none 0 0, .int .i64 0, .slice none 0 0, .slice none 0 0] 39) :: (b1, row (wc W) 39) :: (AI ++ (AS ++ L))) := hK
  refine rg <| ?_
  refine vl (fa underlying39 rfl Ty.z32 rfl) <| vl (ldO hK Ty.o32 0 rfl rfl rfl) <| vl (fa underlying39 rfl Ty.z3 rfl) <| vl (ldO hK Ty.o3 0 rfl rfl rfl) <| ?_
  refine cl call27 rfl (leasesFor_c hK hv2 om om om) ?_
  rintro l w ⟨A, ho, hK⟩
  rw [show rs2.length = ((ids wd.ring).map fun i => ((i, i, min (min (W.now + 20 + 1) 999 + 20) 999) : Ls)).length by rw [List.length_map, ids_len, ← hW.rg, rg_len]; exact hle2] at ho
  rw [hr2, ids_idl, hW.rg] at ho
  obtain ⟨G3, hG3, hl, hK⟩ := K.pubE (c := lc) (fun _ => rfl) hK ho
  refine vl (fa underlying39 rfl Ty.z33 rfl) <| ?_
  refine so hK Ty.i33 rfl 0 rfl rfl rfl hl.1.one rfl ?_
  intro w hK
  refine nl <| thn <| sq <| ?_
  replace hK : K e w G3 ((b3, row (wc ⟨min (W.now + 20 + 1) 999, v2, l, W1.i, W1.next, W1.t, W1.s⟩) 39) :: (b2, row [.int .i64 0, .slice none 0 0, .slice none 0 0, .slice none 0 0, .int .i64 0, .slice none 0 0, .slice none 0 0] 39) :: (b1, row (wc W) 39) :: (AI ++ (AS ++ L))) := hK
  have e1 : min (W.now + 20 + 1) 999 = calN wd.now := by unfold calN; rw [hnw]; congr 1; omega
  have hW3 : WdO G3 lc 51 3 ⟨min (W.now + 20 + 1) 999, v2, l, W1.i, W1.next, W1.t, W1.s⟩ (calW wd) rs2 AI AS :=
   ⟨e1, hv2.mono hG3, by rw [hr2, hW.rg]; rfl, by rw [e1] at hl; exact hl, hW1.items, hW1.next, hW1.told.mono (hG2.trans hG3), hW1.since⟩
  refine rg <| ?_
  refine vl (lsO hK Ty.a39 Ty.s39 0 rfl rfl rfl) <| ?_
  refine soS hK Ty.i39 1 rfl rfl rfl rfl (WdO.one hW3) rfl ?_
  intro w hK
  refine nl <| thn <| rt <| pg1r (rvS hK Ty.a39 Ty.s39 1 rfl rfl rfl) <| ?_
  have hK2 : K e w G3 ([(b3, row (wc ⟨min (W.now + 20 + 1) 999, v2, l, W1.i, W1.next, W1.t, W1.s⟩) 39), (b2, row (wc ⟨min (W.now + 20 + 1) 999, v2, l, W1.i, W1.next, W1.t, W1.s⟩) 39), (b1, row (wc W) 39)] ++ (AI ++ (AS ++ L))) := hK
  obtain ⟨G4, hG4, hW4, hK4⟩ := hW3.pub hK2.dropL
  exact ⟨G4, _, rs2, ((hG1.trans hG2).trans hG3).trans hG4, rfl, by rw [calF_yes hd]; exact hW4, hK4⟩
end
open Go Go.Ro Tryz
section
variable {e w : World} {G : View} {L A : Own} {v u cva : Value} {xs ys code : List Int} {rs qs : List Rn} {W W' : Wv} {wd wd' : Wd} {id other k : Int} {i j : Nat}
theorem l3SameNode_c (hK : K e w G L) {x y : Rn} (hx : IntS G x.2.2.1 x.2.2.2) (hy : IntS G y.2.2.1 y.2.2.2) : Ret prog 155 #[.agg (rc x).toArray, .agg (rc y).toArray] w (fun r w' => r = .bool (dec (nd x = nd y)) ∧ K e w' G L) := by
 have hle := hx.le
 refine enter1 (args := [.agg (rc x).toArray, .agg (rc y).toArray]) func155 rfl rfl rfl rfl ?_
 refine sq <| rg <| ?_
 refine bx hK rfl rfl ?_
 intro b2 w hK
 refine bx hK rfl rfl ?_
 intro b3 w hK
 refine vl (aB rfl) <| nl <| thn <| sq <| sq <| rg <| vl (fa underlying84 rfl Ty.z3 rfl) <| vl (ldO hK Ty.o3 1 rfl rfl rfl) <| vl (fa underlying84 rfl Ty.z3 rfl) <| vl (ldO hK Ty.o3 0 rfl rfl rfl) <| vl (ne rfl rfl) <| vl (mB rfl) <| ?_
 refine splP (t := 11) rfl (fun h1 => ?_) fun h1 => ?_
 ·refine gn rfl <| gn rfl <| gn rfl <| gn rfl <| gn rfl <| vl (pk rfl) <| vl (mB rfl) <| gn rfl <| gn rfl <| gn rfl <| gn rfl <| gn rfl <| gn rfl <| gn rfl <| vl (pk rfl) <| nl <| thn <| ?_
  refine cdt rfl ?_
  refine sq <| rg <| ?_
  refine vl (aB rfl) <| nl <| thn <| rt <| thr <| p1r (a := .bool _) rfl <| ?_
  exact ⟨by rw [dec_f fun h => h1 (congrArg (fun n : Nd => n.1) h)], hK.drop1.drop1⟩
 ·have h1' : x.1 = y.1 := Classical.not_not.1 h1
  refine gy rfl <| vl (fa underlying84 rfl Ty.z3 rfl) <| gy rfl <| vl (ldO hK Ty.o3 1 rfl rfl rfl) <| gy rfl <| vl (fa underlying84 rfl Ty.z3 rfl) <| gy rfl <| vl (ldO hK Ty.o3 0 rfl rfl rfl) <| gy rfl <| vl (ne rfl rfl) <| vl (pk rfl) <| vl (mB rfl) <| ?_
  refine splP (t := 18) rfl (fun h2 => ?_) fun h2 => ?_
  ·refine gn rfl <| gn rfl <| gn rfl <| gn rfl <| gn rfl <| gn rfl <| gn rfl <| vl (pk rfl) <| nl <| thn <| ?_
   refine cdt rfl ?_
   refine sq <| rg <| ?_
   refine vl (aB rfl) <| nl <| thn <| rt <| thr <| p1r (a := .bool _) rfl <| ?_
   exact ⟨by rw [dec_f fun h => h2 (congrArg (fun n : Nd => n.2.1) h)], hK.drop1.drop1⟩
  ·have h2' : x.2.1 = y.2.1 := Classical.not_not.1 h2
   refine gy rfl <| vl (fa underlying84 rfl Ty.z35 rfl) <| gy rfl <| vl (ldO hK Ty.o35 1 rfl rfl rfl) <| gy rfl <| vl (ln underlying35 rfl hx.len) <| gy rfl <| vl (fa underlying84 rfl Ty.z35 rfl) <| gy rfl <| vl (ldO hK Ty.o35 0 rfl rfl rfl) <| gy rfl <| vl (ln underlying35 rfl hy.len) <| gy rfl <| vl (ne rfl rfl) <| vl (pk rfl) <| nl <| thn <| ?_
   refine cdP rfl (fun h3 => ?_) fun h3 => ?_
   ·refine sq <| rg <| ?_
    refine vl (aB rfl) <| nl <| thn <| rt <| thr <| p1r (a := .bool _) rfl <| ?_
    exact ⟨by rw [dec_f fun h => h3 (by have : x.2.2.2 = y.2.2.2 := congrArg (fun n : Nd => n.2.2) h; rw [this])], hK.drop1.drop1⟩
   ·have hln : x.2.2.2.length = y.2.2.2.length := by omega
    refine sk <| thn <| sq <| sq <| rg <| ?_
    refine vl (aI rfl) <| nl <| thn <| bk <| ?_
    refine lp (σ := Nat) (fun i => [(2, .pointer (some ⟨b2, 0, none⟩)), (3, .pointer (some ⟨b3, 0, none⟩)), (5, .int .i64 (i : Int))]) (fun i w => i ≤ x.2.2.2.length ∧ x.2.2.2.take i = y.2.2.2.take i ∧ K e w G ((b3, row (rc y) 84) :: (b2, row (rc x) 84) :: L)) (fun i => x.2.2.2.length - i) 0 ⟨rfl, rfl, rfl, trivial⟩ ⟨Nat.zero_le _, rfl, hK⟩ ?_
    rintro i g w ⟨hi, ha, hK⟩
    refine sq <| sq <| rg <| ?_
    refine vl (mI rfl) <| vl (fa underlying84 rfl Ty.z35 rfl) <| vl (ldO hK Ty.o35 1 rfl rfl rfl) <| vl (ln underlying35 rfl hx.len) <| vl (lt rfl rfl) <| nl <| thn <| ?_
    refine cdP rfl (fun hc => ?_) fun hc => ?_
    ·have hi' : i < x.2.2.2.length := by omega
     have hi2 : i < y.2.2.2.length := by omega
     refine sk <| thn <| sq <| bk <| sq <| ?_
     refine rgq (fun w => K e w G ((b3, row (rc y) 84) :: (b2, row (rc x) 84) :: L)) Ty.mixed kr (hK.drawn _) ?_
     refine qv (fun w hK => (fa underlying84 rfl Ty.z35 rfl)) <| qldO Ty.o35 1 rfl rfl rfl <| qv (fun w hK => (mI rfl)) <| qv (fun w hK => (ixm1 (m := i) underlying35 Ty.s3 rfl hx.1 rfl om om)) <| qldV Ty.o3 rfl (hx.at om) <| qv (fun w hK => (fa underlying84 rfl Ty.z35 rfl)) <| qldO Ty.o35 0 rfl rfl rfl <| qv (fun w hK => (mI rfl)) <| qv (fun w hK => (ixm1 (m := i) underlying35 Ty.s3 rfl hy.1 rfl om om)) <| qldV Ty.o3 rfl (hy.at om) <| qv (fun w hK => (ne rfl rfl)) <| qn <| ?_
     intro w hK
     refine thn <| ?_
     refine cdP rfl (fun h4 => ?_) fun h4 => ?_
     ·refine sq <| rg <| ?_
      refine vl (aB rfl) <| nl <| thn <| rt <| bkr <| thr <| thr <| bkr <| thr <| p1r (a := .bool _) rfl <| ?_
      exact ⟨by rw [dec_f fun h => h4 (by have : x.2.2.2 = y.2.2.2 := congrArg (fun n : Nd => n.2.2) h; simp only [this])], hK.drop1.drop1⟩
     ·have h4' := Classical.not_not.1 h4
      refine sk <| bkn <| thn <| rg <| ?_
      refine vl (mI rfl) <| vl (ad rfl rfl) <| vl (aI rfl) <| nl <| thn <| ?_
      exact ⟨i + 1, ⟨rfl, rfl, rfl, trivial⟩, ⟨hi', by rw [List.take_succ_eq_append_getElem hi', List.take_succ_eq_append_getElem hi2, ha, h4'], hK⟩, by omega⟩
    ·have hi' : i = x.2.2.2.length := by omega
     subst hi'
     rw [List.take_length, hln, List.take_length] at ha
     refine ex <| the <| the <| bkh <| thn <| sq <| rg <| ?_
     refine vl (aB rfl) <| nl <| thn <| rt <| p1r (a := .bool _) rfl <| ?_
     exact ⟨by rw [dec_t (nd_eq h1' h2' ha)], hK.drop1.drop1⟩
theorem l3Same_c (hK : K e w G L) (hv : RngS G v rs) (hu : RngS G u qs) : Ret prog 111 #[v, u] w (fun r w' => r = .bool (dec (rgl rs = rgl qs)) ∧ K e w' G L) := by
 have hs := hv.sl
 have hs2 := hu.sl
 have hle := hs.le
 refine enter1 (args := [v, u]) func111 rfl rfl rfl rfl ?_
 refine sq <| rg <| ?_
 refine vl (aB rfl) <| nl <| thn <| sq <| sq <| rg <| vl mv <| vl (ln underlying32 rfl hs.len) <| vl mv <| vl (ln underlying32 rfl hs2.len) <| vl (ne rfl rfl) <| nl <| thn <| ?_
 refine cdP rfl (fun h0 => ?_) fun h0 => ?_
 ·refine sq <| rg <| ?_
  refine vl (aB rfl) <| nl <| thn <| rt <| thr <| p1r (a := .bool _) rfl <| ?_
  exact ⟨by rw [dec_f fun h => h0 (by have := congrArg List.length h; rw [rg_len, rg_len] at this; omega)], hK⟩
 ·have hln : rs.length = qs.length := by omega
  refine sk <| thn <| sq <| sq <| rg <| ?_
  refine vl (aI rfl) <| nl <| thn <| bk <| ?_
  refine lp (σ := Nat) (fun i => [(0, v), (1, u), (5, .int .i64 (i : Int))]) (fun i w => i ≤ rs.length ∧ rgl (rs.take i) = rgl (qs.take i) ∧ K e w G L) (fun i => rs.length - i) 0 ⟨rfl, rfl, rfl, trivial⟩ ⟨Nat.zero_le _, rfl, hK⟩ ?_
  rintro i g w ⟨hi, ha, hK⟩
  refine sq <| sq <| rg <| ?_
  refine vl (mI rfl) <| vl mv <| vl (ln underlying32 rfl hs.len) <| vl (lt rfl rfl) <| nl <| thn <| ?_
  refine cdP rfl (fun hc => ?_) fun hc => ?_
  ·have hi' : i < rs.length := by omega
   have hi2 : i < qs.length := by omega
   refine sk <| thn <| sq <| bk <| sq <| ?_
   refine rgq (fun w => K _ w _ _) Ty.mixed kr (hK.drawn _) ?_
   refine qv (fun w hK => mv) <| qv (fun w hK => (mI rfl)) <| qv (fun w hK => (ixn underlying32 Ty.s84 rfl hs.1 rfl om)) <| qv (fun w hK => (lsF hK Ty.a84 Ty.s84 rfl hs om)) <| qv (fun w hK => mv) <| qv (fun w hK => (mI rfl)) <| qv (fun w hK => (ixn underlying32 Ty.s84 rfl hs2.1 rfl om)) <| qv (fun w hK => (lsF hK Ty.a84 Ty.s84 rfl hs2 om)) <| ?_
   refine qcl call155 rfl (fun w hK => l3SameNode_c hK (hv.at hi') (hu.at hi2)) ?_
   refine qv (fun w hK => (ntB rfl)) <| qn <| ?_
   intro w hK
   refine thn <| ?_
   refine cdB rfl (fun h1 => ?_) fun h1 => ?_
   ·have h1' := not_dec (Eq.mp (Bool.not_eq_true' _) h1)
    refine sq <| rg <| ?_
    refine vl (aB rfl) <| nl <| thn <| rt <| bkr <| thr <| thr <| bkr <| thr <| p1r (a := .bool _) rfl <| ?_
    exact ⟨by rw [dec_f fun h => h1' (by rw [← rg_get hi', ← rg_get hi2]; simp only [h])], hK⟩
   ·have h1' := of_dec (Eq.mp (Bool.not_eq_false' _) h1)
    refine sk <| bkn <| thn <| rg <| ?_
    refine vl (mI rfl) <| vl (ad rfl rfl) <| vl (aI rfl) <| nl <| thn <| ?_
    exact ⟨i + 1, ⟨rfl, rfl, rfl, trivial⟩, ⟨hi', by rw [rgl_take_succ hi', rgl_take_succ hi2, ha, h1'], hK⟩, by omega⟩
  ·have hi' : i = rs.length := by omega
   subst hi'
   rw [List.take_length, hln, List.take_length] at ha
   refine ex <| the <| the <| bkh <| thn <| sq <| rg <| ?_
   refine vl (aB rfl) <| nl <| thn <| rt <| p1r (a := .bool _) rfl <| ?_
   exact ⟨by rw [dec_t ha], hK⟩
theorem l3Ids_c (hK : K e w G L) (hv : RngS G v rs) (hl : rs.length ≤ 100000) : Ret prog 69 #[v] w (fun r w' => ∃ A, OS 1 3 r (ids (rgl rs)).length (ints (ids (rgl rs))) A ∧ K e w' G (A ++ L)) := by
 have hs := hv.sl
 rw [ids_rg]
 refine enter1 (args := [v]) func69 rfl rfl rfl rfl ?_
 refine sq <| rg <| ?_
 refine vl asg <| nl <| thn <| sq <| rg <| ?_
 refine bs0 hK underlying35 Ty.i3 ?_
 intro b5 w hK
 refine vl asg <| nl <| thn <| sq <| sq <| rg <| vl (aI rfl) <| nl <| thn <| bk <| ?_
 refine lp (σ := Nat × Value × Own) (fun s => [(0, v), (3, s.2.1), (4, .int .i64 (s.1 : Int))]) (fun s w => s.1 ≤ rs.length ∧ OS 1 3 s.2.1 ((rs.take s.1).map (·.1)).length (ints ((rs.take s.1).map (·.1))) s.2.2 ∧ K e w G (s.2.2 ++ L)) (fun s => rs.length - s.1) (0, .slice (some ⟨b5, 0, none⟩) 0 0, [(b5, row [] 3)]) ⟨rfl, rfl, rfl, trivial⟩ ⟨Nat.zero_le _, OS.none, hK⟩ ?_
 clear hK
 rintro ⟨i, u, A⟩ g w ⟨hi, ho, hK⟩
 simp only at hi ho hK
 refine sq <| sq <| rg <| ?_
 refine vl (mI rfl) <| vl mv <| vl (ln underlying32 rfl hs.len) <| vl (lt rfl rfl) <| nl <| thn <| ?_
 refine cdP rfl (fun hc => ?_) fun hc => ?_
 ·have hi' : i < rs.length := by simp only at hc; omega
  refine sk <| thn <| sq <| bk <| rg <| ?_
  refine vl mv <| vl mv <| vl (mI rfl) <| vl (ixm (m := i) underlying32 Ty.s84 rfl hs.1 rfl om om) <| vl (fe underlying84 rfl Ty.z3 rfl hs.1 om) <| vl (ldV hK Ty.o3 rfl (hs.cell om 0 rfl)) <| ?_
  refine bsN [.tmp 17] hK underlying35 Ty.i3 rfl rfl rfl rfl rfl rfl rfl rfl ?_
  intro b18 w hK
  refine apI1 (k := rs[i].1) hK underlying35 Ty.i3 rfl rfl ho rfl (by simp; omega) fun v' A' w ho hK => ?_
  refine vl asg <| nl <| bkn <| thn <| rg <| vl (mI rfl) <| vl (ad rfl rfl) <| vl (aI rfl) <| nl <| thn <| ?_
  exact ⟨(i + 1, v', A'), ⟨rfl, rfl, rfl, trivial⟩, ⟨hi', by rw [List.take_succ_eq_append_getElem hi', List.map_append]; exact ho, hK⟩, by simp only; omega⟩
 ·have hi' : i = rs.length := by simp only at hc; omega
  subst hi'
  refine ex <| the <| the <| bkh <| thn <| sq <| rg <| ?_
  refine vl mv <| vl asg <| nl <| thn <| rt <| p1r (a := _) rfl <| ?_
  rw [List.take_length] at ho
  exact ⟨A, ho, hK⟩
theorem l4Round_c (hK : K e w G L) (hv : RngS G v rs) (hsf : RgSafe (rgl rs)) :
  Ret prog 110 #[v] w (fun r w' => ∃ G' rs', VLe G G' ∧ RngS G' r rs' ∧ rgl rs' = rnd (rgl rs) ∧ K e w' G' L) := by
 have hlen : rs.length ≤ 10 := by rw [← rg_len]; exact hsf.1.1
 have hil : (ids (rgl rs)).length = rs.length := by rw [ids_len, rg_len]
 refine enter1 (args := [v]) func110 rfl rfl rfl rfl ?_
 refine sq <| rg <| ?_
 refine vl asg <| nl <| thn <| sq <| sq <| rg <| vl (aI rfl) <| nl <| thn <| bk <| ?_
 refine lp (σ := Nat × View × Value × List Rn) (fun s => [(0, s.2.2.1), (3, .int .i64 (s.1 : Int))]) (fun s w => s.1 ≤ (ids (rgl rs)).length ∧ VLe G s.2.1 ∧ RngS s.2.1 s.2.2.1 s.2.2.2 ∧ rgl s.2.2.2 = rndR (rgl rs) ((ids (rgl rs)).take s.1) ∧ K e w s.2.1 L) (fun s => (ids (rgl rs)).length - s.1) (0, G, v, rs) ⟨rfl, rfl, trivial⟩ ⟨Nat.zero_le _, VLe.refl _, hv, rfl, hK⟩ ?_
 clear hK hv
 rintro ⟨n, G3, v3, rs3⟩ g w ⟨hn, hG3, hv3, hr3, hK⟩
 simp only at hn hG3 hv3 hr3 hK
 have hl3 : rs3.length = rs.length := by rw [← rg_len, ← ids_len, hr3, rndR_ids, hil]
 have hs3 := hv3.sl
 refine sq <| sq <| rg <| ?_
 refine vl (mI rfl) <| vl mv <| vl (ln underlying32 rfl hs3.len) <| vl (lt rfl rfl) <| nl <| thn <| ?_
 refine cdP rfl (fun hc => ?_) fun hc => ?_
 ·have hn' : n < (ids (rgl rs)).length := by simp only at hc; omega
  have hsf3 : RgSafe (rgl rs3) := by rw [hr3]; exact rndR_safe _ hsf
  have hi3 : (ids (rgl rs))[n] ∈ ids (rgl rs3) := by rw [hr3, rndR_ids]; exact List.getElem_mem _
  obtain ⟨m, hm⟩ := NdA.of hv3 hsf3.1 hi3
  have hmn : m = n := by
   have e1 := hm.hfx
   have e2 : ids (rgl rs3) = ids (rgl rs) := by rw [hr3, rndR_ids]
   rw [fx_ids e2, fx_ix hsf.1 (by rw [← ids_len]; exact hn')] at e1
   exact e1.symm
  subst hmn
  refine sk <| thn <| sq <| bk <| rg <| ?_
  refine vl mv <| vl (mI rfl) <| ?_
  refine cl call154 rfl (l4Stabilize_c hK hv3 hsf3 hm) ?_
  rintro v4 w ⟨G4, rs4, hG4, hv4, hr4, hK⟩
  refine vl asg <| nl <| bkn <| thn <| rg <| vl (mI rfl) <| vl (ad rfl rfl) <| vl (aI rfl) <| nl <| thn <| ?_
  exact ⟨(m + 1, G4, v4, rs4), ⟨rfl, rfl, trivial⟩, ⟨hn', hG3.trans hG4, hv4, by rw [hr4, hr3, rnd_take hn'], hK⟩, by simp only; omega⟩
 ·have hn' : n = (ids (rgl rs)).length := by simp only at hc; omega
  subst hn'
  rw [List.take_length] at hr3
  refine ex <| the <| the <| bkh <| thn <| sq <| rg <| ?_
  refine vl mv <| vl asg <| nl <| thn <| rt <| p1r (a := _) rfl <| ?_
  exact ⟨G3, rs3, hG3, hv3, hr3, hK⟩
theorem l4Calm_c (hK : K e w G L) (hv : RngS G v rs) (hsf : RgSafe (rgl rs)) :
  Ret prog 68 #[v] w (fun r w' => ∃ G' rs', VLe G G' ∧ RngS G' r rs' ∧ rgl rs' = idl (ids (rgl rs)) ∧ K e w' G' L) := by
 rw [← calR_ideal hsf]
 refine enter1 (args := [v]) func68 rfl rfl rfl rfl ?_
 refine sq <| rg <| ?_
 refine vl asg <| nl <| thn <| sq <| rg <| vl (aB rfl) <| nl <| thn <| sq <| bk <| ?_
 refine lp (σ := Bool × View × Value × List Rn) (fun s => [(0, s.2.2.1), (3, .bool s.1)]) (fun s w => VLe G s.2.1 ∧ RngS s.2.1 s.2.2.1 s.2.2.2 ∧ RgSafe (rgl s.2.2.2) ∧ calR (rgl s.2.2.2) = calR (rgl rs) ∧ (s.1 = false → rnd (rgl s.2.2.2) = rgl s.2.2.2) ∧ K e w s.2.1 L) (fun s => 2 * msr (rgl s.2.2.2) + (if s.1 then 1 else 0)) (true, G, v, rs) ⟨rfl, rfl, trivial⟩ ⟨VLe.refl _, hv, hsf, rfl, (fun h => by cases h), hK⟩ ?_
 clear hK hv
 rintro ⟨mo, G2, v2, rs2⟩ g w ⟨hG2, hv2, hs2, hc2, hf2, hK⟩
 simp only at hG2 hv2 hs2 hc2 hf2 hK
 refine sq <| sq <| rg <| ?_
 refine vl (mB rfl) <| nl <| thn <| ?_
 refine cdB rfl (fun h0 => ?_) fun h0 => ?_
 ·subst h0
  refine sk <| thn <| bk <| sq <| rg <| ?_
  refine vl mv <| ?_
  refine cl call110 rfl (l4Round_c hK hv2 hs2) ?_
  rintro v3 w ⟨G3, rs3, hG3, hv3, hr3, hK⟩
  refine vl asg <| nl <| thn <| sq <| rg <| vl mv <| vl mv <| ?_
  refine cl call111 rfl (l3Same_c hK hv3 (hv2.mono hG3)) ?_
  rintro _ w ⟨rfl, hK⟩
  refine vl (ntB rfl) <| vl (aB rfl) <| nl <| thn <| rg <| vl mv <| vl asg <| nl <| bkn <| thn <| ?_
  by_cases he : rgl rs3 = rgl rs2
  ·exact ⟨(false, G3, v3, rs3), ⟨rfl, congrArg Value.bool (by rw [dec_t he]; rfl), trivial⟩, ⟨hG2.trans hG3, hv3, by rw [hr3]; exact rnd_safe hs2, by rw [he]; exact hc2, fun _ => by rw [he, ← hr3, he], hK⟩, by simp only [he]; simp⟩
  ·have hst := calR_step hs2 (fun h => he (hr3.trans h))
   exact ⟨(true, G3, v3, rs3), ⟨rfl, congrArg Value.bool (by rw [dec_f he]; rfl), trivial⟩, ⟨hG2.trans hG3, hv3, by rw [hr3]; exact rnd_safe hs2, by rw [hr3, ← hst.1]; exact hc2, (fun h => by cases h), hK⟩, by simp only [hr3]; have := hst.2; simp; omega⟩
 ·subst h0
  have hfx := hf2 rfl
  refine ex <| the <| the <| bkh <| thn <| sq <| rg <| ?_
  refine vl mv <| ?_
  refine cl call109 rfl (l3Copy_v hK hv2 hs2.1) ?_
  rintro v3 w ⟨G3, rs3, hG3, hr3, hv3, hK⟩
  refine vl asg <| nl <| thn <| rt <| p1r (a := _) rfl <| ?_
  exact ⟨G3, rs3, hG2.trans hG3, hv3, by rw [hr3, ← hc2, calR_same hfx], hK⟩
end
end Go.Proofs.YtbiihblpgfgaoabGreatDoor
