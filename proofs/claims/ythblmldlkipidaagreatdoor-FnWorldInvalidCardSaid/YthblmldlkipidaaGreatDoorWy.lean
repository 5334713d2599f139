/- The program's rounds of a ring, and quiet periods. Plays are drawn; laws on plays and quiet periods: what they return. Conditions: those that each row states. -/
import Derived.Test.YthblmldlkipidaaGreatDoorSb
import Derived.Test.YthblmldlkipidaaGreatDoorWt
import Derived.Test.YthblmldlkipidaaGreatDoorIn
import Derived.Test.YthblmldlkipidaaGreatDoorWh
namespace Go.Proofs.YthblmldlkipidaaGreatDoor
open Go Go.Ro

section
variable {e w : World} {G : View} {L A : Own} {v u : Value} {rs qs : List Rn} {W W' : Wv} {wd wd' : Wd} {id other k : Int} {i j : Nat}

theorem rnd_take {r : List Nd} {ks : List Int} {n : Nat} (h : n < ks.length) : rndR r (ks.take (n + 1)) = stabR (rndR r (ks.take n)) ks[n] := by
 rw [List.take_succ_eq_append_getElem h]; unfold rndR; rw [List.foldl_append]; rfl

theorem implRound_c (hK : K e w G L) (hv : RngS G v rs) (hsf : RgSafe (rgl rs)) :
  Ret Tryz.prog 110 #[v] w (fun r w' => ∃ G' rs', VLe G G' ∧ RngS G' r rs' ∧ rgl rs' = rnd (rgl rs) ∧ K e w' G' L) := by
 have hlen : rs.length ≤ 10 := by rw [← rg_len]; exact hsf.1.1
 refine enter1 (args := [v]) Tryz.func110 rfl rfl rfl rfl ?_
 refine sq <| rg <| ?_
 refine vl asg <| nl <| thn <| sq <| sq <| rg <| vl mv <| ?_
 refine cl Tryz.call58 rfl (implRingSafe_c hK hv) ?_
 rintro _ w ⟨rfl, hK⟩
 refine vl (ntB rfl) <| nl <| thn <| ?_
 refine cdB rfl (fun h1 => ?_) (fun h1 => ?_)
 ·exact absurd hsf (not_dec (Eq.mp (Bool.not_eq_true' _) h1))
 ·refine sk <| thn <| sq <| rg <| ?_
  refine vl mv <| ?_
  refine cl Tryz.call79 rfl (copyRing_v hK hv hsf.1) ?_
  rintro v1 w ⟨G1, rs1, hG1, hr1, hv1, hK⟩
  refine vl asg <| nl <| thn <| sq <| sq <| rg <| vl mv <| ?_
  refine cl Tryz.call68 rfl (idsOf_c hK (hv.mono hG1) om) ?_
  rintro u w ⟨A, ho, hK⟩
  rw [show ints (rs.map (·.1)) = ints (ids (rgl rs)) by rw [ids_rg], show rs.length = (ids (rgl rs)).length by rw [ids_rg, List.length_map]] at ho
  obtain ⟨G2, hG2, hu, hK⟩ := K.pubO hK ho
  have hG := hG1.trans hG2
  have hv2 := hv1.mono hG2
  have hil : (ids (rgl rs)).length = rs.length := by rw [ids_len, rg_len]
  refine vl (ln Tryz.underlying26 rfl hu.len) <| vl (mI rfl) <| nl <| thn <| bk <| ?_
  refine lp (σ := Nat × View × Value × List Rn) (fun s => [(3, s.2.2.1), (14, u), (15, .int .i64 ((ids (rgl rs)).length : Int)), (16, .int .i64 (s.1 : Int))]) (fun s w => s.1 ≤ (ids (rgl rs)).length ∧ VLe G2 s.2.1 ∧ RngS s.2.1 s.2.2.1 s.2.2.2 ∧ rgl s.2.2.2 = rndR (rgl rs) ((ids (rgl rs)).take s.1) ∧ K e w s.2.1 L) (fun s => (ids (rgl rs)).length - s.1) (0, G2, v1, rs1) ⟨rfl, rfl, rfl, rfl, trivial⟩ ⟨Nat.zero_le _, VLe.refl _, hv2, hr1, hK⟩ ?_
  clear hK hv1 hv2 hr1
  rintro ⟨n, G3, v3, rs3⟩ g w ⟨hn, hG3, hv3, hr3, hK⟩
  simp only at hn hG3 hv3 hr3 hK
  replace hu := hu.mono hG3
  refine sq <| rg <| ?_
  refine vl (lt rfl rfl) <| nl <| thn <| sq <| ?_
  refine cdP rfl (fun hc => ?_) (fun hc => ?_)
  ·have hn' : n < (ids (rgl rs)).length := by simp only at hc; omega
   have hs3 : RgSafe (rgl rs3) := by rw [hr3]; exact rndR_safe _ hsf
   have hi3 : (ids (rgl rs))[n] ∈ ids (rgl rs3) := by rw [hr3, rndR_ids]; exact List.getElem_mem _
   refine sk <| thn <| sq <| bk <| sq <| rg <| ?_
   refine vl (ixm1 (m := n) Tryz.underlying26 Ty.s3 rfl hu.1 rfl om om) <| vl (ldV hK Ty.o3 rfl (hu.at om)) <| vl (aI rfl) <| nl <| thn <| sq <| rg <| vl mv <| vl (mI rfl) <| ?_
   refine cl Tryz.call151 rfl (implStabilize_c hK hv3 hs3 hi3) ?_
   rintro _ w ⟨G4, v4, rs4, hG4, rfl, hv4, hr4, hK⟩
   refine vl mv <| vl (ext rfl rfl) <| vl (ext rfl rfl) <| vl asg <| vl (aB rfl) <| nl <| thn <| sq <| rg <| vl (mB rfl) <| nl <| thn <| ?_
   refine cdB rfl (fun h2 => ?_) (fun h2 => ?_)
   ·refine rg <| ?_
    refine vl mv <| vl asg <| nl <| bkn <| thn <| rg <| vl (ad rfl rfl) <| vl (mI rfl) <| nl <| thn <| ?_
    exact ⟨(n + 1, G4, v4, rs4), ⟨rfl, rfl, rfl, rfl, trivial⟩, ⟨hn', hG3.trans hG4, hv4, by rw [hr4, hr3, rnd_take hn'], hK⟩, by simp only; omega⟩
   ·cases h2
  ·have hn' : n = (ids (rgl rs)).length := by simp only at hc; omega
   subst hn'
   rw [List.take_length] at hr3
   refine ex <| the <| the <| bkh <| thn <| sq <| rg <| ?_
   refine vl mv <| vl asg <| nl <| thn <| rt <| p1r (a := _) rfl <| ?_
   exact ⟨G3, rs3, hG.trans hG3, hv3, hr3, hK⟩

theorem implRingCalm_c (hK : K e w G L) (hv : RngS G v rs) (hsf : RgSafe (rgl rs)) :
  Ret Tryz.prog 65 #[v] w (fun r w' => ∃ G' rs', VLe G G' ∧ RngS G' r rs' ∧ rgl rs' = idl (ids (rgl rs)) ∧ K e w' G' L) := by
 rw [← calR_ideal hsf]
 refine enter1 (args := [v]) Tryz.func65 rfl rfl rfl rfl ?_
 refine sq <| rg <| ?_
 refine vl asg <| nl <| thn <| sq <| rg <| vl mv <| ?_
 refine cl Tryz.call79 rfl (copyRing_v hK hv hsf.1) ?_
 rintro v1 w ⟨G1, rs1, hG1, hr1, hv1, hK⟩
 refine vl asg <| nl <| thn <| bk <| ?_
 refine lp (σ := View × Value × List Rn) (fun s => [(3, s.2.1)]) (fun s w => VLe G1 s.1 ∧ RngS s.1 s.2.1 s.2.2 ∧ RgSafe (rgl s.2.2) ∧ calR (rgl s.2.2) = calR (rgl rs) ∧ K e w s.1 L) (fun s => msr (rgl s.2.2)) (G1, v1, rs1) ⟨rfl, trivial⟩ ⟨VLe.refl _, hv1, by rw [hr1]; exact hsf, by rw [hr1], hK⟩ ?_
 clear hK hv1 hr1
 rintro ⟨G2, v2, rs2⟩ g w ⟨hG2, hv2, hs2, hc2, hK⟩
 simp only at hG2 hv2 hs2 hc2 hK
 refine bk <| sq <| rg <| ?_
 refine vl mv <| ?_
 refine cl Tryz.call110 rfl (implRound_c hK hv2 hs2) ?_
 rintro v3 w ⟨G3, rs3, hG3, hv3, hr3, hK⟩
 refine vl asg <| nl <| thn <| sq <| sq <| rg <| vl mv <| vl mv <| ?_
 refine cl Tryz.call72 rfl (implSameRing_c hK hv3 (hv2.mono hG3)) ?_
 rintro _ w ⟨rfl, hK⟩
 refine nl <| thn <| ?_
 refine cdB rfl (fun h1 => ?_) (fun h1 => ?_)
 ·have he := of_dec h1
  refine sq <| rg <| ?_
  refine vl mv <| vl asg <| nl <| thn <| rt <| thr <| bkr <| thr <| bkr <| p1r (a := _) rfl <| ?_
  exact ⟨G3, rs3, (hG1.trans hG2).trans hG3, hv3, by rw [← hc2, calR_same (hr3.symm.trans he), he], hK⟩
 ·have he := not_dec h1
  have hst := calR_step hs2 (fun h => he (hr3.trans h))
  refine sk <| thn <| rg <| ?_
  refine vl mv <| vl asg <| nl <| bkn <| thn <| ?_
  exact ⟨(G3, v3, rs3), ⟨rfl, trivial⟩, ⟨hG2.trans hG3, hv3, by rw [hr3]; exact rnd_safe hs2, by rw [hr3, ← hst.1]; exact hc2, hK⟩, by simp only; rw [hr3]; exact hst.2⟩

set_option maxHeartbeats 1000000 in
theorem implWorldCalm_c (hK : K e w G L) (hW : WdS G lc W wd rs) (hzl : wd.items.length ≤ 1000000) :
  Ret Tryz.prog 24 #[.agg (wc W).toArray] w (fun r w' => ∃ G' W' rs', VLe G G' ∧ r = .agg (wc W').toArray ∧ WdS G' lc W' (calF wd) rs' ∧ K e w' G' L) := by
 refine enterG1 (args := [.agg (wc W).toArray]) Tryz.func24 rfl rfl rfl rfl ?_
 refine sq <| rg <| ?_
 refine bx hK rfl rfl ?_
 intro b1 w hK
 refine al hK Ty.i30 rfl ?_
 intro b2 w hK
 refine nl <| thn <| sq <| sq <| rg <| vl (lsO hK Ty.a30 Ty.s30 1 rfl rfl rfl) <| ?_
 refine cl Tryz.call23 rfl (implWorldValid_c hK hW om) ?_
 rintro _ w ⟨rfl, hK⟩
 refine vl (ntB rfl) <| nl <| thn <| ?_
 refine cdB rfl (fun h1 => ?_) (fun h1 => ?_)
 ·have h1' := not_dec (Eq.mp (Bool.not_eq_true' _) h1)
  refine sq <| rg <| ?_
  refine vl (bd [] Ty.p30 Ty.i30 rfl trivial rfl) <| ?_
  refine soS hK Ty.i30 0 rfl rfl rfl rfl rfl rfl ?_
  intro w hK
  refine nl <| thn <| rt <| thr <| pg1r (rvS hK Ty.a30 Ty.s30 0 rfl rfl rfl) <| ?_
  rw [calF_no h1']
  exact ⟨G, ⟨0, .slice none 0 0, .slice none 0 0, .slice none 0 0, 0, .slice none 0 0, .slice none 0 0⟩, [], VLe.refl _, rfl, WdS.zero, hK.drop1.drop1⟩
 ·have hd := of_dec (Eq.mp (Bool.not_eq_false' _) h1)
  have hsf : RgSafe (rgl rs) := by rw [hW.rg]; exact hd.2.1
  have hn0 := hd.1.1
  have hn1 := hd.1.2
  have hnw := hW.now
  refine sk <| thn <| sq <| rg <| ?_
  refine vl (lsO hK Ty.a30 Ty.s30 1 rfl rfl rfl) <| ?_
  refine cl Tryz.call34 rfl (copyWorld_c hK hW hd.2.1.1 (by have := hd.2.2.1.1; omega) (by have := hd.wda.zl; omega) (by have := hd.2.2.2.2.1.2.1.len; omega) (by have := hd.2.2.2.2.2.1.len; omega)) ?_
  rintro _ w ⟨G1, W1, q1, AI, AS, hG1, rfl, hW1, hK⟩
  replace hK : K _ _ _ ((b2, row [.int .i64 0, .slice none 0 0, .slice none 0 0, .slice none 0 0, .int .i64 0, .slice none 0 0, .slice none 0 0] 30) :: (b1, row (wc W) 30) :: (AI ++ (AS ++ L))) := hK.reo
  refine al hK Ty.i30 rfl ?_
  intro b3 w hK
  refine soS hK Ty.i30 0 rfl rfl rfl rfl (WdO.one hW1) rfl ?_
  intro w hK
  refine nl <| thn <| sq <| rg <| vl (fa Tryz.underlying30 rfl Ty.z23 rfl) <| vl (ldO hK Ty.o23 2 rfl rfl rfl) <| ?_
  replace hK : K e w G1 ((b3, row (wc W1) 30) :: (b2, row [.int .i64 0, .slice none 0 0, .slice none 0 0, .slice none 0 0, .int .i64 0, .slice none 0 0, .slice none 0 0] 30) :: (b1, row (wc W) 30) :: (AI ++ (AS ++ L))) := hK
  refine cl Tryz.call65 rfl (implRingCalm_c hK (hW.ring.mono hG1) hsf) ?_
  rintro v2 w ⟨G2, rs2, hG2, hv2, hr2, hK⟩
  have hle2 : rs2.length = rs.length := by
   have : (rgl rs2).length = (rgl rs).length := by rw [← ids_len, ← ids_len, hr2, ids_idl]
   rw [rg_len, rg_len] at this; exact this
  have h10 := hsf.1.1
  rw [rg_len] at h10
  refine vl (fa Tryz.underlying30 rfl Ty.z23 rfl) <| ?_
  refine so hK Ty.i23 rfl 0 rfl rfl rfl hv2.sl.1.one rfl ?_
  intro w hK
  refine nl <| thn <| sq <| ?_
  replace hK : K e w G2 ((b3, row (wc ⟨W1.now, v2, W1.l, W1.i, W1.next, W1.t, W1.s⟩) 30) :: (b2, row [.int .i64 0, .slice none 0 0, .slice none 0 0, .slice none 0 0, .int .i64 0, .slice none 0 0, .slice none 0 0] 30) :: (b1, row (wc W) 30) :: (AI ++ (AS ++ L))) := hK
  refine rg <| ?_
  refine vl (fa Tryz.underlying30 rfl Ty.z3 rfl) <| vl (ldO hK Ty.o3 2 rfl rfl rfl) <| vl (ad rfl rfl) <| vl (ad rfl rfl) <| vl (mn rfl rfl) <| vl (fa Tryz.underlying30 rfl Ty.z3 rfl) <| ?_
  refine so hK Ty.i3 rfl 0 rfl rfl rfl rfl rfl ?_
  intro w hK
  refine nl <| thn <| sq <| ?_
  replace hK : K e w G2 ((b3, row (wc ⟨min (W.now + 20 + 1) 999, v2, W1.l, W1.i, W1.next, W1.t, W1.s⟩) 30) :: (b2, row [.int .i64 0, .slice none 0 0, .slice none 0 0, .slice none 0 0, .int .i64 0, .slice none 0 0, .slice none 0 0] 30) :: (b1, row (wc W) 30) :: (AI ++ (AS ++ L))) := hK
  refine rg <| ?_
  refine vl (fa Tryz.underlying30 rfl Ty.z23 rfl) <| vl (ldO hK Ty.o23 0 rfl rfl rfl) <| vl (fa Tryz.underlying30 rfl Ty.z3 rfl) <| vl (ldO hK Ty.o3 0 rfl rfl rfl) <| ?_
  refine cl Tryz.call66 rfl (leasesFor_c hK hv2 om om om) ?_
  rintro l w ⟨A, ho, hK⟩
  rw [show rs2.length = ((ids wd.ring).map fun i => ((i, i, min (min (W.now + 20 + 1) 999 + 20) 999) : Ls)).length by rw [List.length_map, ids_len, ← hW.rg, rg_len]; exact hle2] at ho
  rw [hr2, ids_idl, hW.rg] at ho
  obtain ⟨G3, hG3, hl, hK⟩ := K.pubE (c := lc) (fun _ => rfl) hK ho
  refine vl (fa Tryz.underlying30 rfl Ty.z24 rfl) <| ?_
  refine so hK Ty.i24 rfl 0 rfl rfl rfl hl.1.one rfl ?_
  intro w hK
  refine nl <| thn <| sq <| ?_
  replace hK : K e w G3 ((b3, row (wc ⟨min (W.now + 20 + 1) 999, v2, l, W1.i, W1.next, W1.t, W1.s⟩) 30) :: (b2, row [.int .i64 0, .slice none 0 0, .slice none 0 0, .slice none 0 0, .int .i64 0, .slice none 0 0, .slice none 0 0] 30) :: (b1, row (wc W) 30) :: (AI ++ (AS ++ L))) := hK
  have e1 : min (W.now + 20 + 1) 999 = calN wd.now := by unfold calN; rw [hnw]; congr 1; omega
  have hW3 : WdO G3 lc 54 3 ⟨min (W.now + 20 + 1) 999, v2, l, W1.i, W1.next, W1.t, W1.s⟩ (calW wd) rs2 AI AS :=
   ⟨e1, hv2.mono hG3, by rw [hr2, hW.rg]; rfl, by rw [e1] at hl; exact hl, hW1.items, hW1.next, hW1.told.mono (hG2.trans hG3), hW1.since⟩
  refine rg <| ?_
  refine vl (lsO hK Ty.a30 Ty.s30 0 rfl rfl rfl) <| ?_
  refine soS hK Ty.i30 1 rfl rfl rfl rfl (WdO.one hW3) rfl ?_
  intro w hK
  refine nl <| thn <| rt <| pg1r (rvS hK Ty.a30 Ty.s30 1 rfl rfl rfl) <| ?_
  have hK2 : K e w G3 ([(b3, row (wc ⟨min (W.now + 20 + 1) 999, v2, l, W1.i, W1.next, W1.t, W1.s⟩) 30), (b2, row (wc ⟨min (W.now + 20 + 1) 999, v2, l, W1.i, W1.next, W1.t, W1.s⟩) 30), (b1, row (wc W) 30)] ++ (AI ++ (AS ++ L))) := hK
  obtain ⟨G4, hG4, hW4, hK4⟩ := hW3.pub hK2.dropL
  exact ⟨G4, _, rs2, ((hG1.trans hG2).trans hG3).trans hG4, rfl, by rw [calF_yes hd]; exact hW4, hK4⟩
end
end Go.Proofs.YthblmldlkipidaaGreatDoor

namespace Go.Proofs.YthblmldlkipidaaGreatDoor
open Go Go.Ro

section
variable {e w : World} {G : View} {L A : Own} {v u cva cvm : Value} {xs ys code more : List Int} {es : List Ev} {rs qs : List Rn} {W W' : Wv} {wd wd' : Wd} {a b c k kd id p : Int} {i j bk o rb : Nat} {a0 a1 : Addr}

set_option maxRecDepth 20000 in
set_option maxHeartbeats 4000000 in
theorem FnWorldInvalid_c (hK : K e w G L) (hE : ErrS 216 G a0 a1) (hc : BytS G cva code) : Ret Tryz.prog 6 #[cva] w (fun r w' => r = .bool true ∧ ∃ G' L', K e w' G' L' ∧ VLe G G') := by
 refine enter1 (args := [cva]) Tryz.func6 rfl rfl rfl rfl ?_
 refine sq <| rg <| ?_
 refine vl (aB rfl) <| nl <| thn <| sq <| sq <| rg <| vl mv <| vl (ln Tryz.underlying22 rfl hc.len) <| vl (gt rfl rfl) <| nl <| thn <| ?_
 refine cdP rfl (fun hbig => ?_) (fun hbig => ?_)
 ·refine sq <| rg <| ?_
  refine vl (aB rfl) <| nl <| thn <| rt <| thr <| p1r (a := .bool _) rfl <| ?_
  exact ⟨rfl, _, _, hK, VLe.refl _⟩
 ·refine sk <| thn <| sq <| rg <| ?_
  refine vl mv <| ?_
  refine cl Tryz.call22 rfl (DrawWorldValid_c hK hc) ?_
  rintro _ w ⟨G1, W, wd, rs, rfl, hG1, hW, hil, hK⟩
  refine al hK Ty.i30 rfl ?_
  intro b3 w hK
  refine soS hK Ty.i30 0 rfl rfl rfl rfl (WdS.one hW) rfl ?_
  intro w hK
  refine nl <| thn <| sq <| rg <| vl (lsO hK Ty.a30 Ty.s30 0 rfl rfl rfl) <| ?_
  refine cl Tryz.call23 rfl (implWorldValid_c hK hW om) ?_
  rintro _ w ⟨rfl, hK⟩
  refine vl (aB rfl) <| nl <| thn <| sq <| rg <| vl (lsO hK Ty.a30 Ty.s30 0 rfl rfl rfl) <| ?_
  refine cl Tryz.call13 rfl (specWorldValid_c hK hW om) ?_
  rintro _ w ⟨rfl, hK⟩
  refine vl (aB rfl) <| nl <| thn <| sq <| sq <| rg <| vl (mB rfl) <| vl (mB rfl) <| vl (neB Tryz.underlying4 rfl rfl) <| vl (mB rfl) <| ?_
  refine spl (t := 19) rfl (fun h1 => ?_) (fun h1 => ?_)
  ·simp at h1
  ·refine gy rfl <| vl (mB rfl) <| vl (pk rfl) <| nl <| thn <| ?_
   refine cdB rfl (fun h2 => ?_) (fun h2 => ?_)
   ·refine sq <| rg <| ?_
    refine vl (mB rfl) <| vl (mB rfl) <| vl (eqB Tryz.underlying4 rfl rfl) <| vl (aB rfl) <| nl <| thn <| rt <| thr <| p1r (a := .bool _) rfl <| ?_
    exact ⟨congrArg Value.bool (by simp), _, _, hK, hG1⟩
   ·have hno := not_dec h2
    replace hE := hE.mono hG1
    refine sk <| thn <| sq <| rg <| ?_
    refine vl (bd [] Ty.p30 Ty.i30 rfl trivial rfl) <| ?_
    refine al hK Ty.i30 rfl ?_
    intro b6 w hK
    refine soS hK Ty.i30 0 rfl rfl rfl rfl (by rfl) rfl ?_
    intro w hK
    refine nl <| thn <| sq <| ?_
    have hZ : WdS G1 lc ⟨0, .slice none 0 0, .slice none 0 0, .slice none 0 0, 0, .slice none 0 0, .slice none 0 0⟩ wdZ [] := WdS.zero
    replace hK : K e w G1 ((b6, row (wc ⟨0, .slice none 0 0, .slice none 0 0, .slice none 0 0, 0, .slice none 0 0, .slice none 0 0⟩) 30) :: (b3, row (wc W) 30) :: L) := hK
    refine rgs (fun w => K e w G1 ((b6, row (wc ⟨0, .slice none 0 0, .slice none 0 0, .slice none 0 0, 0, .slice none 0 0, .slice none 0 0⟩) 30) :: (b3, row (wc W) 30) :: L)) (fun w => K _ w _ _) [U,U,U,U,U,U,U,U,U,U,U,U,U,U,U,U,U] 17 Ty.mixed rfl rfl (hK.drawn _) ?_
    intro w hK
    have hS : (fun w => K e w G1 ((b6, row (wc ⟨0, .slice none 0 0, .slice none 0 0, .slice none 0 0, 0, .slice none 0 0, .slice none 0 0⟩) 30) :: (b3, row (wc W) 30) :: L)) w := K.sl hK
    refine xt (i := 0) rfl kr rfl rfl (fun w hK => (lsO hK Ty.a30 Ty.s30 1 rfl rfl rfl)) hS <| ?_; refine xt (i := 1) rfl kr rfl rfl (fun w hK => (bd [(0, _)] Ty.p32 Ty.i32 rfl ⟨⟨rfl, rfl⟩, trivial⟩ rfl)) hS <| ?_; refine xt (i := 3) rfl kr rfl rfl (fun w hK => (lsO hK Ty.a30 Ty.s30 0 rfl rfl rfl)) hS <| ?_
    refine xe (i := 2) kr rfl rfl ?_
    refine cl Tryz.call10 rfl (implWorldDo_c (kd := 10) (a := 0) (b := 0) (c := 0) hE hK hW hil) ?_
    rintro _ w ⟨G2, W2, q2, hG2, rfl, hW2, hK⟩
    rw [wdF_no hno] at hW2
    refine xnk ((K.vle (K.sl hK) hG2)) fun hS => ?_
    refine xe (i := 4) kr rfl rfl ?_
    refine cl Tryz.call12 rfl (sameWorld_c hK hW2 (hZ.mono hG2)) ?_
    rintro _ w ⟨rfl, hK⟩
    refine xnk ((K.vle (K.sl hK) hG2)) fun hS => ?_
    refine xt (i := 5) rfl kr rfl rfl (fun w hK => (mB rfl)) hS <| ?_
    refine xspl (t := 31) rfl (fun h3 => ?_) (fun h3 => ?_)
    ·refine xt (i := 6) rfl kr rfl rfl (fun w hK => (lsO hK Ty.a30 Ty.s30 1 rfl rfl rfl)) hS <| ?_; refine xt (i := 8) rfl kr rfl rfl (fun w hK => (lsO hK Ty.a30 Ty.s30 0 rfl rfl rfl)) hS <| ?_
     refine xe (i := 7) kr rfl rfl ?_
     refine gy rfl <| ?_
     refine cl Tryz.call24 rfl (implWorldCalm_c hK (hW.mono hG2) hil) ?_
     rintro _ w ⟨G3, W3, q3, hG3, rfl, hW3, hK⟩
     rw [calF_no hno] at hW3
     refine xnk ((K.vle (K.sl hK) (hG2.trans hG3))) fun hS => ?_
     refine xe (i := 9) kr rfl rfl ?_
     refine gy rfl <| ?_
     refine cl Tryz.call12 rfl (sameWorld_c hK hW3 (hZ.mono (hG2.trans hG3))) ?_
     rintro _ w ⟨rfl, hK⟩
     refine xnk ((K.vle (K.sl hK) (hG2.trans hG3))) fun hS => ?_
     refine xt (i := 10) rfl kr rfl rfl (fun w hK => (pk rfl)) hS <| ?_; refine xt (i := 11) rfl kr rfl rfl (fun w hK => (mB rfl)) hS <| ?_
     refine xspl (t := 37) rfl (fun h4 => ?_) (fun h4 => ?_)
     ·refine xt (i := 12) rfl kr rfl rfl (fun w hK => (lsO hK Ty.a30 Ty.s30 1 rfl rfl rfl)) hS <| ?_
      refine xe (i := 13) kr rfl rfl ?_
      refine gy rfl <| ?_
      refine cl Tryz.call14 rfl (WorldOwner_c hK (hW.mono (hG2.trans hG3)) om) ?_
      rintro _ w ⟨⟨n, rfl, hinv, _, _⟩, G4, hG4, hK⟩
      refine xnk ((K.vle (K.sl hK) ((hG2.trans hG3).trans hG4))) fun hS => ?_
      refine xt (i := 14) rfl kr rfl rfl (fun w hK => (eq rfl rfl)) hS <| ?_; refine xt (i := 15) rfl kr rfl rfl (fun w hK => (pk rfl)) hS <| ?_; refine xt (i := 16) rfl kr rfl rfl (fun w hK => (aB rfl)) hS <| ?_; refine xd kr <| thn <| rt <| p1r (a := .bool _) rfl <| ?_
      exact ⟨congrArg Value.bool (decide_eq_true (hinv hno)), _, _, hK, ((hG1.trans hG2).trans hG3).trans hG4⟩
     ·exact absurd rfl (not_dec h4)
    ·exact absurd rfl (not_dec h3)

end
end Go.Proofs.YthblmldlkipidaaGreatDoor
