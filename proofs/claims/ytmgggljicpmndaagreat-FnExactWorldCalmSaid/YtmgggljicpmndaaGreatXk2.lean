/- The program's renewing of leases and its copies of worlds: in new memory. The program's rounds and quiet periods: in new memory. Conditions: those that each row states. -/
import Derived.Test.YtmgggljicpmndaaGreatCm
import Derived.Test.YtmgggljicpmndaaGreatXl1
import Derived.Test.YtmgggljicpmndaaGreatXr1
namespace Go.Proofs.YtmgggljicpmndaaGreat
open Go Go.Ro Tryz
section
variable {e w : World} {G G0 : View} {L A : Own} {v u : Value} {ls ms : List Ls} {k fr at' to un key now ow : Int} {i : Nat} {a0 a1 : Addr}
set_option maxHeartbeats 1000000 in
set_option maxHeartbeats 4000000 in
theorem copyWorldF_c {W : Wv} {wd : Wd} {rs : List Rn} (hK : K e w G L) (hW : WdS G lc W wd rs) (hok : RgOk wd.ring) (hll : wd.leases.length ≤ 1000000) (hil : wd.items.length ≤ 1000000) (htl : wd.scan.2.length ≤ 1000000) (hsl : wd.since.length ≤ 1000000) :
  Ret prog 27 #[.agg (wc W).toArray] w (fun r w' => ∃ G' W' rs' AI AS, VLe G G' ∧ r = .agg (wc W').toArray ∧ WdP G G' 79 78 lc 84 3 W' wd rs' AI AS ∧ K e w' G' (AI ++ (AS ++ L))) := by
 have hok' : RgOk (rgl rs) := by rw [hW.rg]; exact hok
 refine enterG1 (args := [.agg (wc W).toArray]) func27 rfl rfl rfl rfl ?_
 refine sq <| rg <| ?_
 refine bx hK rfl rfl ?_
 intro b1 w hK
 refine al hK Ty.i36 rfl ?_
 intro b2 w hK
 refine nl <| thn <| sq <| ?_
 refine rgs (fun w => K e w G ((b1, row (wc W) 36) :: L)) (fun w => K _ w _ _) [U,U,U,U,U,U,U,U,U,U,U,U,U,U,U,U,U,U,U] 19 Ty.mixed rfl rfl (hK.drawn _) ?_
 intro w hK
 have hS : (fun w => K e w G ((b1, row (wc W) 36) :: L)) w := K.sl hK
 refine xt (i := 0) rfl kr rfl rfl (fun w hK => (fa underlying36 rfl Ty.z3 rfl)) hS <| xt (i := 1) rfl kr rfl rfl (fun w hK => (ldO hK Ty.o3 0 rfl rfl rfl)) hS <| xt (i := 2) rfl kr rfl rfl (fun w hK => (fa underlying36 rfl Ty.z31 rfl)) hS <| xt (i := 3) rfl kr rfl rfl (fun w hK => (ldO hK Ty.o31 0 rfl rfl rfl)) hS <| xt (i := 5) rfl kr rfl rfl (fun w hK => (fa underlying36 rfl Ty.z32 rfl)) hS <| xt (i := 6) rfl kr rfl rfl (fun w hK => (ldO hK Ty.o32 0 rfl rfl rfl)) hS <| xt (i := 8) rfl kr rfl rfl (fun w hK => (fa underlying36 rfl Ty.z33 rfl)) hS <| xt (i := 9) rfl kr rfl rfl (fun w hK => (ldO hK Ty.o33 0 rfl rfl rfl)) hS <| xt (i := 11) rfl kr rfl rfl (fun w hK => (fa underlying36 rfl Ty.z34 rfl)) hS <| xt (i := 12) rfl kr rfl rfl (fun w hK => (lsP (u := [.int .i64 W.next, W.t]) hK Ty.a34 Ty.s34 0 rfl rfl rfl rfl)) hS <| xt (i := 14) rfl kr rfl rfl (fun w hK => (fa underlying36 rfl Ty.z25 rfl)) hS <| xt (i := 15) rfl kr rfl rfl (fun w hK => (ldO hK Ty.o25 0 rfl rfl rfl)) hS <| ?_
 refine xe (i := 4) kr rfl rfl ?_
 refine cl call70 rfl (copyRingF_v hK hW.ring hok') ?_
 rintro v7 w ⟨G1, q1, hG1, hq1, hr1, hrn, hK⟩
 refine xnk ((K.vle (K.sl hK) hG1)) fun hS => ?_
 refine xe (i := 7) kr rfl rfl ?_
 refine cl call71 rfl (cloneL_c hK (LeaS.mono hW.leases hG1) hll) ?_
 rintro v10 w ⟨A1, ho1, hK⟩
 have hpub := K.pubEF lc_len hK ho1 hG1
 clear ho1 hK
 obtain ⟨G2, hG2, hx2, hxn2, hxb2, hK⟩ := hpub
 refine xnk ((K.vle (K.sl hK) (hG1.trans hG2))) fun hS => ?_
 refine xe (i := 10) kr rfl rfl ?_
 refine cl call72 rfl (cloneI_c hK (hW.items.mono (hG1.trans hG2)) hil) ?_
 rintro v13 w ⟨AI, hoI, hK⟩
 replace hK := K.mid (A := AI) (B := [_, _]) hK
 refine xnk ((K.vle (K.sl hK) (hG1.trans hG2))) fun hS => ?_
 refine xe (i := 13) kr rfl rfl ?_
 refine cl call73 rfl (copyScan_c hK (hW.told.mono (hG1.trans hG2)) om) ?_
 rintro _ w ⟨v16, A3, rfl, ho3, hK⟩
 have hpub := K.pubOF hK ho3 (hG1.trans hG2)
 clear ho3 hK
 obtain ⟨G3, hG3, hx3, hxn3, hxb3, hK⟩ := hpub
 have hGa := (hG1.trans hG2).trans hG3
 refine xnk ((K.vle (K.sl hK) hGa)) fun hS => ?_
 refine xe (i := 16) kr rfl rfl ?_
 refine cl call74 rfl (clone_c hK (hW.since.mono hGa) om) ?_
 rintro v19 w ⟨AS, hoS, hK⟩
 replace hK := K.mid (A := AS) (B := [_, _]) hK
 have hW2 : WdP G G3 79 78 lc 84 3 ⟨W.now, v7, v10, v13, W.next, v16, v19⟩ wd q1 AI AS := ⟨⟨hW.now, hr1.mono (hG2.trans hG3), hq1.trans hW.rg, LeaS.mono hx2 hG3, .inl hoI, hW.next, hx3, .inl (by rw [← ints_flat]; exact hoS)⟩, WdN.of (hrn.mono (hG2.trans hG3)) (hxn2.mono hG3) hxn3 (cwNd hrn hxn2 hxn3 hG2 hG3 hxb2 hxb3)⟩
 refine xnk ((K.vle (K.sl hK) hGa)) fun hS => ?_
 refine xe (i := 17) kr rfl rfl ?_
 refine vl (bd [(0, _), (1, _), (2, _), (3, _), (4, _), (5, _)] Ty.p36 Ty.i36 rfl ⟨⟨rfl, rfl⟩, ⟨rfl, one_cells (SlW.one hr1.sl.1)⟩, ⟨rfl, one_cells (SlW.one hx2.1)⟩, ⟨rfl, one_cells (OS.one hoI)⟩, ⟨rfl, rfl⟩, ⟨rfl, one_cells (OS.one hoS)⟩, trivial⟩ rfl) <| ?_
 refine xnk ((K.vle (K.sl hK) hGa)) fun hS => ?_
 refine xe (i := 18) kr rfl rfl ?_
 refine soS hK Ty.i36 0 rfl rfl rfl rfl (WdO.one hW2.toWdO) rfl ?_
 intro w hK
 refine xnk ((K.vle (K.sl hK) hGa)) fun hS => ?_
 refine xd kr <| thn <| rt <| pg1r (rvS hK Ty.a36 Ty.s36 0 rfl rfl rfl) <| ?_
 have hK2 : K e w G3 ((b2, row (wc ⟨W.now, v7, v10, v13, W.next, v16, v19⟩) 36) :: (b1, row (wc W) 36) :: (AS ++ (AI ++ L))) := hK
 exact ⟨G3, _, q1, AI, AS, hGa, rfl, hW2, K.mid (A := AS) (B := AI) hK2.drop1.drop1⟩
end
open Go Go.Ro Tryz
section
variable {e w : World} {G G0 : View} {L A : Own} {v u : Value} {rs qs : List Rn} {W W' : Wv} {wd wd' : Wd} {id other k : Int} {i j : Nat}
theorem implRoundF_c (hK : K e w G L) (hv : RngS G v rs) (hsf : RgSafe (rgl rs)) :
  Ret prog 75 #[v] w (fun r w' => ∃ G' rs', VLe G G' ∧ RngS G' r rs' ∧ RgNew 79 3 G G' r rs' ∧ rgl rs' = rnd (rgl rs) ∧ K e w' G' L) := by
 have hlen : rs.length ≤ 10 := by rw [← rg_len]; exact hsf.1.1
 refine enter1 (args := [v]) func75 rfl rfl rfl rfl ?_
 refine sq <| rg <| ?_
 refine vl asg <| nl <| thn <| sq <| sq <| rg <| vl mv <| ?_
 refine cl call62 rfl (implRingSafe_c hK hv) ?_
 rintro _ w ⟨rfl, hK⟩
 refine vl (ntB rfl) <| nl <| thn <| ?_
 refine cdB rfl (fun h1 => ?_) fun h1 => ?_
 ·exact absurd hsf (not_dec (Eq.mp (Bool.not_eq_true' _) h1))
 ·refine sk <| thn <| sq <| rg <| ?_
  refine vl mv <| ?_
  refine cl call70 rfl (copyRingF_v hK hv hsf.1) ?_
  rintro v1 w ⟨G1, rs1, hG1, hr1, hv1, hn1, hK⟩
  refine vl asg <| nl <| thn <| sq <| sq <| rg <| vl mv <| ?_
  refine cl call98 rfl (idsOf_c hK (hv.mono hG1) om) ?_
  rintro u w ⟨A, ho, hK⟩
  rw [show ints (rs.map (·.1)) = ints (ids (rgl rs)) by rw [ids_rg], show rs.length = (ids (rgl rs)).length by rw [ids_rg, List.length_map]] at ho
  obtain ⟨G2, hG2, hu, hK⟩ := K.pubO hK ho
  have hG := hG1.trans hG2
  have hv2 := hv1.mono hG2
  have hil : (ids (rgl rs)).length = rs.length := by rw [ids_len, rg_len]
  refine vl (ln underlying25 rfl hu.len) <| vl (mI rfl) <| nl <| thn <| bk <| ?_
  refine lp (σ := Nat × View × Value × List Rn) (fun s => [(3, s.2.2.1), (14, u), (15, .int .i64 ((ids (rgl rs)).length : Int)), (16, .int .i64 (s.1 : Int))]) (fun s w => s.1 ≤ (ids (rgl rs)).length ∧ VLe G2 s.2.1 ∧ RngS s.2.1 s.2.2.1 s.2.2.2 ∧ RgNew 79 3 G s.2.1 s.2.2.1 s.2.2.2 ∧ rgl s.2.2.2 = rndR (rgl rs) ((ids (rgl rs)).take s.1) ∧ K e w s.2.1 L) (fun s => (ids (rgl rs)).length - s.1) (0, G2, v1, rs1) ⟨rfl, rfl, rfl, rfl, trivial⟩ ⟨Nat.zero_le _, VLe.refl _, hv2, hn1.mono hG2, hr1, hK⟩ ?_
  clear hK hv1 hv2 hn1 hr1
  rintro ⟨n, G3, v3, rs3⟩ g w ⟨hn, hG3, hv3, hn3, hr3, hK⟩
  simp only at hn hG3 hv3 hn3 hr3 hK
  replace hu := hu.mono hG3
  refine sq <| rg <| ?_
  refine vl (lt rfl rfl) <| nl <| thn <| sq <| ?_
  refine cdP rfl (fun hc => ?_) fun hc => ?_
  ·have hn' : n < (ids (rgl rs)).length := by simp only at hc; omega
   have hs3 : RgSafe (rgl rs3) := by rw [hr3]; exact rndR_safe _ hsf
   have hi3 : (ids (rgl rs))[n] ∈ ids (rgl rs3) := by rw [hr3, rndR_ids]; exact List.getElem_mem _
   refine sk <| thn <| sq <| bk <| sq <| rg <| ?_
   refine vl (ixm1 (m := n) underlying25 Ty.s3 rfl hu.1 rfl om om) <| vl (ldV hK Ty.o3 rfl (hu.at om)) <| vl (aI rfl) <| nl <| thn <| sq <| rg <| vl mv <| vl (mI rfl) <| ?_
   refine cl call99 rfl (implStabilizeF_c hK hv3 hs3 hi3) ?_
   rintro _ w ⟨G4, v4, rs4, hG4, rfl, hv4, hn4, hr4, hK⟩
   refine vl mv <| vl (ext rfl rfl) <| vl (ext rfl rfl) <| vl asg <| vl (aB rfl) <| nl <| thn <| sq <| rg <| vl (mB rfl) <| nl <| thn <| ?_
   refine cdB rfl (fun h2 => ?_) fun h2 => ?_
   ·refine rg <| ?_
    refine vl mv <| vl asg <| nl <| bkn <| thn <| rg <| vl (ad rfl rfl) <| vl (mI rfl) <| nl <| thn <| ?_
    exact ⟨(n + 1, G4, v4, rs4), ⟨rfl, rfl, rfl, rfl, trivial⟩, ⟨hn', hG3.trans hG4, hv4, hn4.older (hG.trans hG3), by rw [hr4, hr3, rnd_take hn'], hK⟩, by simp only; omega⟩
   ·cases h2
  ·have hn' : n = (ids (rgl rs)).length := by simp only at hc; omega
   subst hn'
   rw [List.take_length] at hr3
   refine ex <| the <| the <| bkh <| thn <| sq <| rg <| ?_
   refine vl mv <| vl asg <| nl <| thn <| rt <| p1r (a := _) rfl <| ?_
   exact ⟨G3, rs3, hG.trans hG3, hv3, hn3, hr3, hK⟩
theorem implRingCalmF_c (hK : K e w G L) (hv : RngS G v rs) (hsf : RgSafe (rgl rs)) :
  Ret prog 28 #[v] w (fun r w' => ∃ G' rs', VLe G G' ∧ RngS G' r rs' ∧ RgNew 79 3 G G' r rs' ∧ rgl rs' = idl (ids (rgl rs)) ∧ K e w' G' L) := by
 rw [← calR_ideal hsf]
 refine enter1 (args := [v]) func28 rfl rfl rfl rfl ?_
 refine sq <| rg <| ?_
 refine vl asg <| nl <| thn <| sq <| rg <| vl mv <| ?_
 refine cl call70 rfl (copyRingF_v hK hv hsf.1) ?_
 rintro v1 w ⟨G1, rs1, hG1, hr1, hv1, hn1, hK⟩
 refine vl asg <| nl <| thn <| bk <| ?_
 refine lp (σ := View × Value × List Rn) (fun s => [(3, s.2.1)]) (fun s w => VLe G1 s.1 ∧ RngS s.1 s.2.1 s.2.2 ∧ RgNew 79 3 G s.1 s.2.1 s.2.2 ∧ RgSafe (rgl s.2.2) ∧ calR (rgl s.2.2) = calR (rgl rs) ∧ K e w s.1 L) (fun s => msr (rgl s.2.2)) (G1, v1, rs1) ⟨rfl, trivial⟩ ⟨VLe.refl _, hv1, hn1, by rw [hr1]; exact hsf, by rw [hr1], hK⟩ ?_
 clear hK hv1 hn1 hr1
 rintro ⟨G2, v2, rs2⟩ g w ⟨hG2, hv2, hn2, hs2, hc2, hK⟩
 simp only at hG2 hv2 hn2 hs2 hc2 hK
 refine bk <| sq <| rg <| ?_
 refine vl mv <| ?_
 refine cl call75 rfl (implRoundF_c hK hv2 hs2) ?_
 rintro v3 w ⟨G3, rs3, hG3, hv3, hn3, hr3, hK⟩
 replace hn3 := hn3.older (hG1.trans hG2)
 refine vl asg <| nl <| thn <| sq <| sq <| rg <| vl mv <| vl mv <| ?_
 refine cl call76 rfl (implSameRing_c hK hv3 (hv2.mono hG3)) ?_
 rintro _ w ⟨rfl, hK⟩
 refine nl <| thn <| ?_
 refine cdB rfl (fun h1 => ?_) fun h1 => ?_
 ·have he := of_dec h1
  refine sq <| rg <| ?_
  refine vl mv <| vl asg <| nl <| thn <| rt <| thr <| bkr <| thr <| bkr <| p1r (a := _) rfl <| ?_
  exact ⟨G3, rs3, (hG1.trans hG2).trans hG3, hv3, hn3, by rw [← hc2, calR_same (hr3.symm.trans he), he], hK⟩
 ·have he := not_dec h1
  have hst := calR_step hs2 (fun h => he (hr3.trans h))
  refine sk <| thn <| rg <| ?_
  refine vl mv <| vl asg <| nl <| bkn <| thn <| ?_
  exact ⟨(G3, v3, rs3), ⟨rfl, trivial⟩, ⟨hG2.trans hG3, hv3, hn3, by rw [hr3]; exact rnd_safe hs2, by rw [hr3, ← hst.1]; exact hc2, hK⟩, by simp only; rw [hr3]; exact hst.2⟩
set_option maxHeartbeats 1000000 in
theorem implWorldCalmF_c (hK : K e w G L) (hW : WdS G lc W wd rs) (hzl : wd.items.length ≤ 1048576) :
  Ret prog 7 #[.agg (wc W).toArray] w (fun r w' => ∃ G' W' rs', VLe G G' ∧ r = .agg (wc W').toArray ∧ WdS G' lc W' (calF wd) rs' ∧ WdF lc 79 78 84 3 G G' W' (calF wd) rs' ∧ K e w' G' L) := by
 refine enterG1 (args := [.agg (wc W).toArray]) func7 rfl rfl rfl rfl ?_
 refine sq <| rg <| ?_
 refine bx hK rfl rfl ?_
 intro b1 w hK
 refine al hK Ty.i36 rfl ?_
 intro b2 w hK
 refine nl <| thn <| sq <| sq <| rg <| vl (lsO hK Ty.a36 Ty.s36 1 rfl rfl rfl) <| ?_
 refine cl call26 rfl (implWorldValid_c hK hW om) ?_
 rintro _ w ⟨rfl, hK⟩
 refine vl (ntB rfl) <| nl <| thn <| ?_
 refine cdB rfl (fun h1 => ?_) fun h1 => ?_
 ·have h1' := not_dec (Eq.mp (Bool.not_eq_true' _) h1)
  refine sq <| rg <| ?_
  refine vl (bd [] Ty.p36 Ty.i36 rfl trivial rfl) <| ?_
  refine soS hK Ty.i36 0 rfl rfl rfl rfl rfl rfl ?_
  intro w hK
  refine nl <| thn <| rt <| thr <| pg1r (rvS hK Ty.a36 Ty.s36 0 rfl rfl rfl) <| ?_
  rw [calF_no h1']
  exact ⟨G, ⟨0, .slice none 0 0, .slice none 0 0, .slice none 0 0, 0, .slice none 0 0, .slice none 0 0⟩, [], VLe.refl _, rfl, WdS.zero, WdF.zero, hK.drop1.drop1⟩
 ·have hd := of_dec (Eq.mp (Bool.not_eq_false' _) h1)
  have hsf : RgSafe (rgl rs) := by rw [hW.rg]; exact hd.2.1
  have hn0 := hd.1.1
  have hn1 := hd.1.2
  have hnw := hW.now
  refine sk <| thn <| sq <| rg <| ?_
  refine vl (lsO hK Ty.a36 Ty.s36 1 rfl rfl rfl) <| ?_
  refine cl call27 rfl (copyWorldF_c hK hW hd.2.1.1 (by have := hd.2.2.1.1; omega) (by have := hd.wda.zl; omega) (by have := hd.2.2.2.2.1.2.1.len; omega) (by have := hd.2.2.2.2.2.1.len; omega)) ?_
  rintro _ w ⟨G1, W1, q1, AI, AS, hG1, rfl, hW1, hK⟩
  replace hK : K _ _ _ ((b2, row [.int .i64 0, .slice none 0 0, .slice none 0 0, .slice none 0 0, .int .i64 0, .slice none 0 0, .slice none 0 0] 36) :: (b1, row (wc W) 36) :: (AI ++ (AS ++ L))) := hK.reo
  refine al hK Ty.i36 rfl ?_
  intro b3 w hK
  refine soS hK Ty.i36 0 rfl rfl rfl rfl (WdO.one hW1.toWdO) rfl ?_
  intro w hK
  refine nl <| thn <| sq <| rg <| vl (fa underlying36 rfl Ty.z31 rfl) <| vl (ldO hK Ty.o31 2 rfl rfl rfl) <| ?_
  replace hK : K e w G1 ((b3, row (wc W1) 36) :: (b2, row [.int .i64 0, .slice none 0 0, .slice none 0 0, .slice none 0 0, .int .i64 0, .slice none 0 0, .slice none 0 0] 36) :: (b1, row (wc W) 36) :: (AI ++ (AS ++ L))) := hK
  refine cl call28 rfl (implRingCalmF_c hK (hW.ring.mono hG1) hsf) ?_
  rintro v2 w ⟨G2, rs2, hG2, hv2, hn2, hr2, hK⟩
  have hle2 : rs2.length = rs.length := by
   have : (rgl rs2).length = (rgl rs).length := by rw [← ids_len, ← ids_len, hr2, ids_idl]
   rw [rg_len, rg_len] at this; exact this
  have h10 := hsf.1.1
  rw [rg_len] at h10
  refine vl (fa underlying36 rfl Ty.z31 rfl) <| ?_
  refine so hK Ty.i31 rfl 0 rfl rfl rfl hv2.sl.1.one rfl ?_
  intro w hK
  refine nl <| thn <| sq <| ?_
  replace hK : K e w G2 ((b3, row (wc ⟨W1.now, v2, W1.l, W1.i, W1.next, W1.t, W1.s⟩) 36) :: (b2, row [.int .i64 0, .slice none 0 0, .slice none 0 0, .slice none 0 0, .int .i64 0, .slice none 0 0, .slice none 0 0] 36) :: (b1, row (wc W) 36) :: (AI ++ (AS ++ L))) := hK
  refine rg <| ?_
  refine vl (fa underlying36 rfl Ty.z3 rfl) <| vl (ldO hK Ty.o3 2 rfl rfl rfl) <| vl (ad rfl rfl) <| vl (ad rfl rfl) <| vl (mn rfl rfl) <| vl (fa underlying36 rfl Ty.z3 rfl) <| ?_
  refine so hK Ty.i3 rfl 0 rfl rfl rfl rfl rfl ?_
  intro w hK
  refine nl <| thn <| sq <| ?_
  replace hK : K e w G2 ((b3, row (wc ⟨min (W.now + 20 + 1) 999, v2, W1.l, W1.i, W1.next, W1.t, W1.s⟩) 36) :: (b2, row [.int .i64 0, .slice none 0 0, .slice none 0 0, .slice none 0 0, .int .i64 0, .slice none 0 0, .slice none 0 0] 36) :: (b1, row (wc W) 36) :: (AI ++ (AS ++ L))) := hK
  refine rg <| ?_
  refine vl (fa underlying36 rfl Ty.z31 rfl) <| vl (ldO hK Ty.o31 0 rfl rfl rfl) <| vl (fa underlying36 rfl Ty.z3 rfl) <| vl (ldO hK Ty.o3 0 rfl rfl rfl) <| ?_
  refine cl call29 rfl (leasesFor_c hK hv2 om om om) ?_
  rintro l w ⟨A, ho, hK⟩
  rw [show rs2.length = ((ids wd.ring).map fun i => ((i, i, min (min (W.now + 20 + 1) 999 + 20) 999) : Ls)).length by rw [List.length_map, ids_len, ← hW.rg, rg_len]; exact hle2] at ho
  rw [hr2, ids_idl, hW.rg] at ho
  obtain ⟨G3, hG3, hl, hln, hlb, hK⟩ := K.pubEF (c := lc) (fun _ => rfl) hK ho (VLe.refl _)
  refine vl (fa underlying36 rfl Ty.z32 rfl) <| ?_
  refine so hK Ty.i32 rfl 0 rfl rfl rfl hl.1.one rfl ?_
  intro w hK
  refine nl <| thn <| sq <| ?_
  replace hK : K e w G3 ((b3, row (wc ⟨min (W.now + 20 + 1) 999, v2, l, W1.i, W1.next, W1.t, W1.s⟩) 36) :: (b2, row [.int .i64 0, .slice none 0 0, .slice none 0 0, .slice none 0 0, .int .i64 0, .slice none 0 0, .slice none 0 0] 36) :: (b1, row (wc W) 36) :: (AI ++ (AS ++ L))) := hK
  have e1 : min (W.now + 20 + 1) 999 = calN wd.now := by unfold calN; rw [hnw]; congr 1; omega
  have hnd := ((hW1.nw.setR hG1 hG2 hn2 (r := rgl rs2)).setL (hG1.trans hG2) hG3 hln).nd
  rw [e1] at hln
  have hW3 : WdP G G3 79 78 lc 84 3 ⟨min (W.now + 20 + 1) 999, v2, l, W1.i, W1.next, W1.t, W1.s⟩ (calW wd) rs2 AI AS :=
   ⟨⟨e1, hv2.mono hG3, by rw [hr2, hW.rg]; rfl, by rw [e1] at hl; exact hl, hW1.items, hW1.next, hW1.told.mono (hG2.trans hG3), hW1.since⟩, ⟨(hn2.older hG1).mono hG3, hln.older (hG1.trans hG2), hW1.nw.told.mono (hG2.trans hG3), hnd⟩⟩
  refine rg <| ?_
  refine vl (lsO hK Ty.a36 Ty.s36 0 rfl rfl rfl) <| ?_
  refine soS hK Ty.i36 1 rfl rfl rfl rfl (WdO.one hW3.toWdO) rfl ?_
  intro w hK
  refine nl <| thn <| rt <| pg1r (rvS hK Ty.a36 Ty.s36 1 rfl rfl rfl) <| ?_
  have hK2 : K e w G3 ([(b3, row (wc ⟨min (W.now + 20 + 1) 999, v2, l, W1.i, W1.next, W1.t, W1.s⟩) 36), (b2, row (wc ⟨min (W.now + 20 + 1) 999, v2, l, W1.i, W1.next, W1.t, W1.s⟩) 36), (b1, row (wc W) 36)] ++ (AI ++ (AS ++ L))) := hK
  obtain ⟨G4, hG4, hW4, hF4, hK4⟩ := hW3.pubF ((hG1.trans hG2).trans hG3) hK2.dropL
  exact ⟨G4, _, rs2, ((hG1.trans hG2).trans hG3).trans hG4, rfl, by rw [calF_yes hd]; exact hW4, by rw [calF_yes hd]; exact hF4, hK4⟩
end
end Go.Proofs.YtmgggljicpmndaaGreat
