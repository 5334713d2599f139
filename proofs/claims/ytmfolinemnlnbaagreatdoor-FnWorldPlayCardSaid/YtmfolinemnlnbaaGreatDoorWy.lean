/- Plays are drawn; laws on plays and quiet periods: what they return. Conditions: those that each row states. -/
import Derived.Test.YtmfolinemnlnbaaGreatDoorCm
import Derived.Test.YtmfolinemnlnbaaGreatDoorWt
import Derived.Test.YtmfolinemnlnbaaGreatDoorWh
namespace Go.Proofs.YtmfolinemnlnbaaGreatDoor
open Go Go.Ro Tryz
section
variable {e w : World} {G : View} {L A : Own} {v u cva cvm : Value} {xs ys code more : List Int} {es : List Ev} {rs qs : List Rn} {W W' : Wv} {wd wd' : Wd} {a b c k kd id p : Int} {i j bk o rb : Nat} {a0 a1 : Addr}
set_option maxHeartbeats 2000000 in
theorem DrawWorldPlay_c (hK : K e w G L) (hc : BytS G cva code) :
  Ret prog 17 #[cva] w (fun r w' => ∃ G' v u xs es, r = .tuple #[v, u] ∧ VLe G G' ∧ IntS G' v xs ∧ EvS G' u es ∧ es.length ≤ 81 ∧ K e w' G' L) := by
 refine enter2 (args := [cva]) func17 rfl rfl rfl rfl ?_
 refine sq <| rg <| ?_
 refine vl asg <| vl asg <| nl <| thn <| sq <| rg <| vl mv <| ?_
 refine cl call29 rfl (l6Open_c hK hc) ?_
 rintro _ w ⟨rb, cvb, code, rfl, hcode, hlen, hK⟩
 refine vl asg <| nl <| thn <| sq <| rg <| vl mv <| ?_
 refine cl call51 rfl (l91Good_c hK hcode hlen om om om om) ?_
 rintro v w ⟨G1, xs, A, p1, hG1, ho, has, hl1, hl2, hp1, hp2, hK⟩
 obtain ⟨G2, hG2, hx, hK⟩ := K.pubO (K.mid (A := [_]) (B := A) hK) ho
 refine vl asg <| nl <| thn <| sq <| rg <| vl mv <| ?_
 refine cl call52 rfl (specWorldNew_c hK hx) ?_
 rintro _ w ⟨G3, W, wd, rs, b, rfl, hG3, hW, hb, hwd, hK⟩
 have hbt : b = true := hb.2 ⟨⟨⟨by omega, by omega⟩, has⟩, by omega⟩
 subst hbt
 rw [if_pos rfl] at hwd
 have hok : WdOk wd := by rw [hwd]; exact newW_ok ⟨⟨by omega, by omega⟩, has⟩ (by omega)
 have hG := (hG1.trans hG2).trans hG3
 replace hcode := hcode.mono hG
 replace hx := hx.mono hG3
 clear hwd hb
 refine vl mv <| vl (ext rfl rfl) <| vl (ext rfl rfl) <| ?_
 refine al hK Ty.i30 rfl ?_
 intro b6 w hK
 refine soS hK Ty.i30 0 rfl rfl rfl rfl (WdS.one hW) rfl ?_
 intro w hK
 refine vl (aB rfl) <| nl <| thn <| sq <| sq <| rg <| vl mv <| ?_
 refine cl call32 rfl (pickJ_c 1 hK rfl hcode hlen om om om) ?_
 rintro _ w ⟨⟨k22, rfl, hk22, hkn22⟩, hK⟩
 refine vl (eq rfl rfl) <| nl <| thn <| ?_
 refine ct (σ := View × Value × List Int × Int) (fun s => [(4, .pointer (some ⟨rb, 0, none⟩)), (5, s.2.1), (6, .pointer (some ⟨b6, 0, none⟩))]) (fun s w => VLe G3 s.1 ∧ IntS s.1 s.2.1 s.2.2.1 ∧ (0 ≤ s.2.2.2 ∧ s.2.2.2 ≤ 100) ∧ K e w s.1 ((b6, row (wc W) 30) :: (rb, row [cvb, .int .i64 s.2.2.2] 98) :: L)) ?_ ?_
 ·refine cdP rfl (fun c0 => ?_) fun c0 => ?_
  ·refine rg <| ?_
   refine vl mv <| ?_
   refine cl call53 rfl (l91Nodes_c hK.swp hcode hlen om om) ?_
   rintro v2 w ⟨G4, ys, p2, hG4, hy, hl, r1, r2, hK⟩
   replace hK := hK.swp
   refine vl asg <| nl <| ctn <| ?_
   exact ⟨(G4, v2, ys, p2), ⟨rfl, rfl, rfl, trivial⟩, hG4, hy, ⟨by simp only; omega, by simp only; omega⟩, hK⟩
  ·refine sk <| ctn <| ?_
   exact ⟨(G3, v, xs, p1 + 1), ⟨rfl, rfl, rfl, trivial⟩, VLe.refl _, hx, ⟨by simp only; omega, by simp only; omega⟩, hK⟩
 ·clear hK hx
  rintro ⟨G4, v, xs, p⟩ g w ⟨hG4, hx, ⟨hp3, hp4⟩, hK⟩
  simp only at hG4 hx hp3 hp4 hK
  replace hcode := hcode.mono hG4
  replace hW := hW.mono hG4
  refine thn <| sq <| rg <| ?_
  refine bs0 hK underlying43 Ty.i32 ?_
  intro b26 w hK
  refine vl asg <| nl <| thn <| sq <| rg <| vl mv <| ?_
  refine cl call32 rfl (pickJ_c 2 hK rfl hcode hlen om om om) ?_
  rintro _ w ⟨⟨k28, rfl, hk28, hkn28⟩, hK⟩
  refine vl (aI rfl) <| nl <| thn <| sq <| sq <| rg <| vl mv <| ?_
  refine cl call32 rfl (pickJ_c 2 hK rfl hcode hlen om om om) ?_
  rintro _ w ⟨⟨k30, rfl, hk30, hkn30⟩, hK⟩
  refine vl (eq rfl rfl) <| nl <| thn <| ?_
  refine ct (σ := Int × Int) (fun s => [(4, .pointer (some ⟨rb, 0, none⟩)), (5, v), (6, .pointer (some ⟨b6, 0, none⟩)), (8, .slice (some ⟨b26, 0, none⟩) 0 0), (9, .int .i64 s.1)]) (fun s w => (0 ≤ s.1 ∧ s.1 ≤ 81) ∧ (0 ≤ s.2 ∧ s.2 ≤ 200) ∧ K e w G4 ((b26, row [] 32) :: (b6, row (wc W) 30) :: (rb, row [cvb, .int .i64 s.2] 98) :: L)) ?_ ?_
  ·refine cdP rfl (fun c1 => ?_) fun c1 => ?_
   ·refine rg <| ?_
    refine vl mv <| ?_
    refine cl call32 rfl (pickJ_c 2 hK rfl hcode hlen om om om) ?_
    rintro _ w ⟨⟨k33, rfl, hk33, hkn33⟩, hK⟩
    refine vl (ad rfl rfl) <| vl (aI rfl) <| nl <| ctn <| ?_
    exact ⟨(_, _), ⟨rfl, rfl, rfl, rfl, rfl, trivial⟩, ⟨by simp only; omega, by simp only; omega⟩, ⟨by simp only; omega, by simp only; omega⟩, hK⟩
   ·refine sk <| ctn <| ?_
    exact ⟨(_, _), ⟨rfl, rfl, rfl, rfl, rfl, trivial⟩, ⟨by simp only; omega, by simp only; omega⟩, ⟨by simp only; omega, by simp only; omega⟩, hK⟩
  ·clear hK
   rintro ⟨n, q⟩ g w ⟨⟨hn0, hn1⟩, ⟨q0, q1⟩, hK⟩
   simp only at hn0 hn1 q0 q1 hK
   replace hK : K _ _ _ ((b6, row (wc W) 30) :: (rb, row [cvb, .int .i64 q] 98) :: ([(b26, row [] 32)] ++ L)) := hK.reo
   refine thn <| sq <| sq <| rg <| ?_
   refine vl (aI rfl) <| nl <| thn <| bk <| ?_
   refine lp (σ := Nat × View × Wv × Wd × List Rn × Int × List Ev × Value × Own) (fun s => [(4, .pointer (some ⟨rb, 0, none⟩)), (5, v), (6, .pointer (some ⟨b6, 0, none⟩)), (8, s.2.2.2.2.2.2.2.1), (9, .int .i64 n), (10, .int .i64 (s.1 : Int))]) (fun s w => (s.1 : Int) ≤ n ∧ VLe G4 s.2.1 ∧ WdS s.2.1 lc s.2.2.1 s.2.2.2.1 s.2.2.2.2.1 ∧ WdOk s.2.2.2.1 ∧ (0 ≤ s.2.2.2.2.2.1 ∧ s.2.2.2.2.2.1 ≤ 200 + 41 * s.1) ∧ s.2.2.2.2.2.2.1.length = s.1 ∧ OS 4 32 s.2.2.2.2.2.2.2.1 s.2.2.2.2.2.2.1.length (s.2.2.2.2.2.2.1.flatMap evc) s.2.2.2.2.2.2.2.2 ∧ K e w s.2.1 ((b6, row (wc s.2.2.1) 30) :: (rb, row [cvb, .int .i64 s.2.2.2.2.2.1] 98) :: (s.2.2.2.2.2.2.2.2 ++ L))) (fun s => n.toNat - s.1) (0, G4, W, wd, rs, q, [], .slice (some ⟨b26, 0, none⟩) 0 0, [(b26, row [] 32)]) ⟨rfl, rfl, rfl, rfl, rfl, rfl, trivial⟩ ⟨hn0, VLe.refl _, hW, hok, ⟨q0, by simp only; omega⟩, rfl, OS.none, hK⟩ ?_
   clear hW hok hK
   rintro ⟨i, G5, W, wd, rs, q, es, u, A⟩ g w ⟨hi, hG5, hW, hok, ⟨q2, q3⟩, hes, ho, hK⟩
   simp only at hi hG5 hW hok q2 q3 hes ho hK
   replace hcode := hcode.mono hG5
   refine sq <| sq <| rg <| ?_
   refine vl (mI rfl) <| vl (mI rfl) <| vl (lt rfl rfl) <| nl <| thn <| ?_
   refine cdP rfl (fun hc => ?_) fun hc => ?_
   ·have hc' : (i : Int) < n := hc
    refine sk <| thn <| sq <| bk <| sq <| rg <| ?_
    refine vl mv <| vl (lsO hK Ty.a30 Ty.s30 0 rfl rfl rfl) <| ?_
    refine cl call31 rfl (l92EventJ_c (rb := rb) 1 hK rfl hcode hlen om om hW hok) ?_
    rintro _ w ⟨kd, a, b, c, p2, rfl, r1, r2, hK⟩
    refine al hK Ty.i32 rfl ?_
    intro b11 w hK
    refine soS hK Ty.i32 0 rfl rfl rfl rfl rfl rfl ?_
    intro w hK
    refine nl <| thn <| sq <| ?_
    replace hK : K e w G5 ((b11, row (evc (kd, a, b, c)) 32) :: (b6, row (wc W) 30) :: (rb, row [cvb, .int .i64 p2] 98) :: (A ++ L)) := hK
    refine rg <| ?_
    refine vl mv <| vl (lsO hK Ty.a32 Ty.s32 0 rfl rfl rfl) <| ?_
    refine bsS1 hK underlying43 Ty.i32 rfl rfl rfl rfl rfl rfl ?_
    intro b45 w hK
    replace hK : K e w G5 ((b45, row (evc (kd, a, b, c)) 32) :: (b11, row (evc (kd, a, b, c)) 32) :: (b6, row (wc W) 30) :: (rb, row [cvb, .int .i64 p2] 98) :: (A ++ L)) := hK
    replace hK : K _ _ _ ((b45, row (evc (kd, a, b, c)) 32) :: (A ++ ((b11, row (evc (kd, a, b, c)) 32) :: (b6, row (wc W) 30) :: (rb, row [cvb, .int .i64 p2] 98) :: L))) := hK.reo
    refine apE1 (c := evc) (k := (kd, a, b, c)) (fun _ => rfl) rfl hK underlying43 Ty.i32 rfl rfl rfl ho rfl om fun v' A' w ho hK => ?_
    replace hK : K _ _ _ ((b11, row (evc (kd, a, b, c)) 32) :: (b6, row (wc W) 30) :: (rb, row [cvb, .int .i64 p2] 98) :: (A' ++ L)) := hK.reo
    refine vl asg <| nl <| thn <| rg <| vl (lsO hK Ty.a30 Ty.s30 1 rfl rfl rfl) <| vl (lsO hK Ty.a32 Ty.s32 0 rfl rfl rfl) <| ?_
    refine cl call37 rfl (l51Do_c (kd := kd) (a := a) (b := b) (c := c) hK hW hok.wda) ?_
    rintro _ w ⟨G6, W2, rs2, hG6, rfl, hW2, hK⟩
    refine soS hK Ty.i30 1 rfl rfl rfl rfl (WdS.one hW2) rfl ?_
    intro w hK
    refine nl <| bkn <| thn <| rg <| vl (mI rfl) <| vl (ad rfl rfl) <| vl (aI rfl) <| nl <| thn <| ?_
    exact ⟨(i + 1, G6, W2, _, rs2, p2, es ++ [(kd, a, b, c)], v', A'), ⟨rfl, rfl, rfl, rfl, rfl, rfl, trivial⟩, ⟨by simp only; omega, hG5.trans hG6, hW2, doW_ok hok kd a b c, ⟨by simp only; omega, by simp only; omega⟩, by simp [hes], ho, hK.drop1⟩, by simp only; omega⟩
   ·have hc' : ¬ (i : Int) < n := hc
    refine ex <| the <| the <| bkh <| thn <| sq <| rg <| ?_
    refine vl mv <| vl mv <| vl asg <| vl asg <| nl <| thn <| rt <| p2r (a := _) (b := _) rfl rfl <| ?_
    obtain ⟨G6, hG6, hu, hK⟩ := K.pubE (c := evc) (fun _ => rfl) (K.drop1 (K.drop1 hK)) ho
    exact ⟨G6, v, u, xs, es, rfl, ((hG.trans hG4).trans hG5).trans hG6, hx.mono (hG5.trans hG6), hu, by omega, hK⟩
theorem implWorldPlayO_c (hE : ErrS 216 0 1 G a0 a1) (hv : IntS G v xs) (hp : PlOk xs es) (ho : OS 4 32 u es.length (es.flatMap evc) A) (hK : K e w G (A ++ L)) :
  Ret prog 18 #[v, u] w (fun r w' => ∃ G' W rs, r = .tuple #[.agg (wc W).toArray, .bool true] ∧ VLe G G' ∧ WdS G' lc W (plF xs es) rs ∧ K e w' G' L) := by
 obtain ⟨G5, hG5, hu, hK⟩ := K.pubE (c := evc) (fun _ => rfl) hK ho
 refine (implWorldPlay_c (hE.mono hG5) hK (hv.mono hG5) hu).mono fun _ _ ⟨G6, W, wd, rs, b, h1, h2, h3, h4, h5, h6⟩ => ?_
 have hb : b = true := h4.2 hp
 rw [hb] at h1 h5
 rw [if_pos rfl] at h5
 exact ⟨G6, W, rs, h1, hG5.trans h2, h5 ▸ h3, h6⟩
set_option maxRecDepth 20000 in
set_option maxHeartbeats 8000000 in
theorem FnWorldPlay_c (hK : K e w G L) (hE : ErrS 216 0 1 G a0 a1) (hc : BytS G cva code) (hm : BytS G cvm more) : Ret prog 5 #[cva, cvm] w (fun r w' => r = .bool true ∧ ∃ G' L', K e w' G' L' ∧ VLe G G') := by
 refine enter1 (args := [cva, cvm]) func5 rfl rfl rfl rfl ?_
 refine sq <| rg <| ?_
 refine vl (aB rfl) <| nl <| thn <| sq <| sq <| rg <| vl mv <| vl (ln underlying22 rfl hc.len) <| vl (gt rfl rfl) <| vl (mB rfl) <| ?_
 refine splP (t := 18) rfl (fun hbig => ?_) fun hbig => ?_
 ·refine gn rfl <| gn rfl <| gn rfl <| vl (pk rfl) <| nl <| thn <| ?_
  refine cdt rfl ?_
  refine sq <| rg <| ?_
  refine vl (aB rfl) <| nl <| thn <| rt <| thr <| p1r (a := .bool _) rfl <| ?_
  exact ⟨rfl, _, _, hK, VLe.refl _⟩
 ·refine gy rfl <| vl mv <| gy rfl <| vl (ln underlying22 rfl hm.len) <| gy rfl <| vl (gt rfl rfl) <| vl (pk rfl) <| nl <| thn <| ?_
  refine cdP rfl (fun hbig2 => ?_) fun hbig2 => ?_
  ·refine sq <| rg <| ?_
   refine vl (aB rfl) <| nl <| thn <| rt <| thr <| p1r (a := .bool _) rfl <| ?_
   exact ⟨rfl, _, _, hK, VLe.refl _⟩
  ·refine sk <| thn <| sq <| rg <| ?_
   refine vl mv <| ?_
   refine cl call17 rfl (DrawWorldPlay_c hK hc) ?_
   rintro _ w ⟨G1, v, u, xs, es, rfl, hG1, hv, hu, hel, hK⟩
   refine vl mv <| vl (ext rfl rfl) <| vl (ext rfl rfl) <| vl asg <| vl asg <| nl <| thn <| sq <| rg <| vl mv <| vl mv <| ?_
   refine cl call18 rfl (implWorldPlay_c (hE.mono hG1) hK hv hu) ?_
   rintro _ w ⟨G2, W, wd, rs, bb, rfl, hG2, hW, hb, hwd, hK⟩
   refine vl mv <| vl (ext rfl rfl) <| vl (ext rfl rfl) <| ?_
   refine al hK Ty.i30 rfl ?_
   intro b7 w hK
   refine soS hK Ty.i30 0 rfl rfl rfl rfl (WdS.one hW) rfl ?_
   intro w hK
   refine vl (aB rfl) <| nl <| thn <| sq <| rg <| vl mv <| vl mv <| ?_
   refine cl call19 rfl (specWorldPlay_c hK (hv.mono hG2) (EF.mono hu hG2)) ?_
   rintro _ w ⟨G3, W2, wd2, rs2, bb2, rfl, hG3, hW2, hb2, hwd2, hK⟩
   obtain rfl : bb2 = bb := Bool.eq_iff_iff.2 (hb2.trans hb.symm)
   obtain rfl : wd2 = wd := hwd2.trans hwd.symm
   clear hb2 hwd2
   have hG := (hG1.trans hG2).trans hG3
   replace hE := hE.mono hG
   replace hW := hW.mono hG3
   replace hv := hv.mono (hG2.trans hG3)
   replace hu := EF.mono hu (hG2.trans hG3)
   refine vl mv <| vl (ext rfl rfl) <| vl (ext rfl rfl) <| ?_
   refine al hK Ty.i30 rfl ?_
   intro b9 w hK
   refine soS hK Ty.i30 0 rfl rfl rfl rfl (WdS.one hW2) rfl ?_
   intro w hK
   refine vl (aB rfl) <| nl <| thn <| sq <| sq <| rg <| vl (mB rfl) <| vl (mB rfl) <| vl (neB underlying4 rfl rfl) <| vl (mB rfl) <| ?_
   refine spl (t := 43) rfl (fun h1 => ?_) fun h1 => ?_
   ·simp at h1
   ·refine gy rfl <| vl (lsO hK Ty.a30 Ty.s30 1 rfl rfl rfl) <| gy rfl <| vl (lsO hK Ty.a30 Ty.s30 0 rfl rfl rfl) <| gy rfl <| ?_
    refine cl call12 rfl (sameWorld_c hK hW hW2) ?_
    rintro _ w ⟨rfl, hK⟩
    refine gy rfl <| vl (ntB rfl) <| vl (pk rfl) <| vl (mB rfl) <| ?_
    refine spl (t := 49) rfl (fun h2 => ?_) fun h2 => ?_
    ·exact absurd rfl (not_dec (Eq.mp (Bool.not_eq_true' _) h2))
    ·refine gy rfl <| vl (mB rfl) <| gy rfl <| vl (ntB rfl) <| vl (pk rfl) <| vl (mB rfl) <| ?_
     refine spl (t := 53) rfl (fun h3 => ?_) fun h3 => ?_
     ·refine gn rfl <| gn rfl <| gn rfl <| vl (pk rfl) <| nl <| thn <| ?_
      refine cdt rfl ?_
      refine sq <| rg <| ?_
      refine vl (mB rfl) <| vl (mB rfl) <| vl (eqB underlying4 rfl rfl) <| vl (mB rfl) <| ?_
      refine spl (t := 61) rfl (fun h7 => ?_) fun h7 => ?_
      ·refine gy rfl <| vl (lsO hK Ty.a30 Ty.s30 1 rfl rfl rfl) <| gy rfl <| vl (lsO hK Ty.a30 Ty.s30 0 rfl rfl rfl) <| gy rfl <| ?_
       refine cl call12 rfl (sameWorld_c hK hW hW2) ?_
       rintro _ w ⟨rfl, hK⟩
       refine vl (pk rfl) <| vl (aB rfl) <| nl <| thn <| rt <| thr <| p1r (a := .bool _) rfl <| ?_
       exact ⟨congrArg Value.bool (dec_t rfl), _, _, hK, hG⟩
      ·simp at h7
     ·obtain rfl : bb2 = true := by simpa using h3
      have hpl := hb.1 rfl
      rw [if_pos rfl] at hwd
      have hok : WdOk wd2 := by rw [hwd]; exact plF_ok hpl
      refine gy rfl <| vl mv <| gy rfl <| vl (ln underlying43 rfl hu.len) <| gy rfl <| vl (eq rfl rfl) <| vl (pk rfl) <| nl <| thn <| ?_
      refine cdP rfl (fun h4 => ?_) fun h4 => ?_
      ·refine sq <| rg <| ?_
       refine vl (mB rfl) <| vl (mB rfl) <| vl (eqB underlying4 rfl rfl) <| vl (mB rfl) <| ?_
       refine spl (t := 61) rfl (fun h7 => ?_) fun h7 => ?_
       ·refine gy rfl <| vl (lsO hK Ty.a30 Ty.s30 1 rfl rfl rfl) <| gy rfl <| vl (lsO hK Ty.a30 Ty.s30 0 rfl rfl rfl) <| gy rfl <| ?_
        refine cl call12 rfl (sameWorld_c hK hW hW2) ?_
        rintro _ w ⟨rfl, hK⟩
        refine vl (pk rfl) <| vl (aB rfl) <| nl <| thn <| rt <| thr <| p1r (a := .bool _) rfl <| ?_
        exact ⟨congrArg Value.bool (dec_t rfl), _, _, hK, hG⟩
       ·simp at h7
      ·have hE' := hE
       refine sk <| thn <| sq <| rg <| ?_
       refine vl mv <| ?_
       refine cl call9 rfl (DrawWorldDo_c hK (hm.mono hG)) ?_
       rintro _ w ⟨G4, Wd, wdd, rsd, kd, a, b, c, rfl, hG4, hWd, hild, hK⟩
       replace hW := hW.mono hG4
       replace hv := hv.mono hG4
       replace hu := EF.mono hu hG4
       replace hE := hE.mono hG4
       have hpl2 : PlOk xs (es ++ [(kd, a, b, c)]) := ⟨hpl.1, by have := hpl.2; simp; omega⟩
       refine vl mv <| vl (ext rfl rfl) <| vl (ext rfl rfl) <| ?_
       refine al hK Ty.i30 rfl ?_
       intro b11 w hK
       refine al hK Ty.i32 rfl ?_
       intro b12 w hK
       refine soS hK Ty.i30 1 rfl rfl rfl rfl (WdS.one hWd) rfl ?_
       intro w hK
       refine soS hK Ty.i32 0 rfl rfl rfl rfl rfl rfl ?_
       intro w hK
       refine nl <| thn <| sq <| ?_
       replace hK : K e w G4 ((b12, row (ec kd a b c) 32) :: (b11, row (wc Wd) 30) :: (b9, row (wc W2) 30) :: (b7, row (wc W) 30) :: L) := hK
       refine ct (σ := View × Nat × Wv × List Rn) (fun s => [(7, .pointer (some ⟨b7, 0, none⟩)), (12, .pointer (some ⟨b12, 0, none⟩)), (13, .pointer (some ⟨s.2.1, 0, none⟩)), (14, .bool true)]) (fun s w => VLe G4 s.1 ∧ WdS s.1 lc s.2.2.1 (plF xs (es ++ [(kd, a, b, c)])) s.2.2.2 ∧ K e w s.1 ((s.2.1, row (wc s.2.2.1) 30) :: (b12, row (ec kd a b c) 32) :: (b7, row (wc W) 30) :: L)) ?_ ?_
       ·skip
        refine rgs (fun w => K e w G4 ((b12, row (ec kd a b c) 32) :: L)) (fun w => K _ w _ _) [U,U,U,U,U,U,U,U,U,U,U,U,U,U] 14 Ty.mixed rfl rfl (hK.drawn _) ?_
        intro w hK
        have hS : (fun w => K e w G4 ((b12, row (ec kd a b c) 32) :: L)) w := K.sl hK
        refine xt (i := 0) rfl kr rfl rfl (fun w hK => mv) hS <| xt (i := 2) rfl kr rfl rfl (fun w hK => mv) hS <| xt (i := 4) rfl kr rfl rfl (fun w hK => (lsO hK Ty.a32 Ty.s32 0 rfl rfl rfl)) hS <| ?_
        refine xe3 (i := 1) (j := 5) (m := 11) (l3 := [Y,U,Y,U,Y,U,U,U,U,U,U,Y,U,U]) kr rfl rfl rfl rfl rfl rfl ?_ ?_ ?_
        ·refine bs0 hK underlying43 Ty.i32 ?_
         intro b73 w hK
         refine xnk (K.sl hK) fun hS => ?_
         refine xe3 (i := 3) (j := 5) (m := 11) (l3 := [Y,Y,Y,U,Y,U,U,U,U,U,U,Y,U,U]) kr rfl rfl rfl rfl rfl rfl ?_ ?_ ?_
         ·skip
          refine ap0o (c := evc) (fun _ => rfl) rfl hK underlying43 Ty.i32 rfl rfl rfl rfl hu om fun v1 A1 w ho1 hK => ?_
          refine xnk ((K.sl hK)) fun hS => ?_
          refine xe2 (i := 5) (j := 11) kr rfl rfl rfl rfl ?_ ?_
          ·refine bsS1 hK underlying43 Ty.i32 rfl rfl rfl rfl rfl rfl ?_
           intro b77 w hK
           refine xnk ((K.sl hK)) fun hS => ?_
           refine xe2 (i := 6) (j := 11) kr rfl rfl rfl rfl ?_ ?_
           ·skip
            replace hK : K e w G4 ((b77, row (evc (kd, a, b, c)) 32) :: (A1 ++ ((b73, row [] 32) :: (b12, row (ec kd a b c) 32) :: (b11, row (wc Wd) 30) :: (b9, row (wc W2) 30) :: (b7, row (wc W) 30) :: L))) := hK
            refine apE1x (c := evc) (k := (kd, a, b, c)) (fun _ => rfl) rfl hK underlying43 Ty.i32 rfl rfl rfl ho1 rfl om fun v2 A2 w ho2 hK => ?_
            refine xnk ((K.sl hK)) fun hS => ?_
            refine xe2 (i := 7) (j := 11) kr rfl rfl rfl rfl ?_ ?_
            ·skip
             refine cl call18 rfl (implWorldPlayO_c hE hv hpl2 ho2 hK) ?_
             rintro _ w ⟨G6, W6, rs6, rfl, hG6, hW6, hK⟩
             refine xnk ((K.vle (K.sl hK) hG6)) fun hS => ?_
             refine xt (i := 8) rfl kr rfl rfl (fun w hK => mv) hS <| xt (i := 9) rfl kr rfl rfl (fun w hK => (ext rfl rfl)) hS <| xt (i := 10) rfl kr rfl rfl (fun w hK => (ext rfl rfl)) hS <| ?_
             refine xe (i := 11) kr rfl rfl ?_
             refine al hK Ty.i30 rfl ?_
             intro b13 w hK
             refine xnk ((K.vle (K.sl hK) hG6)) fun hS => ?_
             refine xe (i := 12) kr rfl rfl ?_
             refine soS hK Ty.i30 0 rfl rfl rfl rfl (WdS.one hW6) rfl ?_
             intro w hK
             refine xnk ((K.vle (K.sl hK) hG6)) fun hS => ?_
             refine xt (i := 13) rfl kr rfl rfl (fun w hK => (aB rfl)) hS <| xd kr <| ctn <| ?_
             replace hK : K e w G6 ((b13, row (wc W6) 30) :: (b73, row [] 32) :: (b12, row (ec kd a b c) 32) :: (b11, row (wc Wd) 30) :: (b9, row (wc W2) 30) :: (b7, row (wc W) 30) :: L) := hK
             exact ⟨(G6, b13, W6, rs6), ⟨rfl, rfl, rfl, rfl, trivial⟩, hG6, hW6, K.sl hK (by repeat' (first | exact List.Sublist.refl _ | refine List.Sublist.cons_cons _ ?_ | refine List.Sublist.cons _ ?_))⟩
            ·refine al hK Ty.i30 rfl ?_
             intro b13 w hK
             refine xnk ((K.sl hK)) fun hS => ?_
             refine xe (i := 7) kr rfl rfl ?_
             replace hK : K e w G4 ((b13, row [.int .i64 0, .slice none 0 0, .slice none 0 0, .slice none 0 0, .int .i64 0, .slice none 0 0, .slice none 0 0] 30) :: (A2 ++ ((b73, row [] 32) :: (b12, row (ec kd a b c) 32) :: (b11, row (wc Wd) 30) :: (b9, row (wc W2) 30) :: (b7, row (wc W) 30) :: L))) := hK
             replace hK : K _ _ _ (A2 ++ ((b13, row [.int .i64 0, .slice none 0 0, .slice none 0 0, .slice none 0 0, .int .i64 0, .slice none 0 0, .slice none 0 0] 30) :: (b73, row [] 32) :: (b12, row (ec kd a b c) 32) :: (b11, row (wc Wd) 30) :: (b9, row (wc W2) 30) :: (b7, row (wc W) 30) :: L)) := hK.reo
             refine cl call18 rfl (implWorldPlayO_c hE hv hpl2 ho2 hK) ?_
             rintro _ w ⟨G6, W6, rs6, rfl, hG6, hW6, hK⟩
             refine xnk ((K.vle (K.sl hK) hG6)) fun hS => ?_
             refine xt (i := 8) rfl kr rfl rfl (fun w hK => mv) hS <| xt (i := 9) rfl kr rfl rfl (fun w hK => (ext rfl rfl)) hS <| xt (i := 10) rfl kr rfl rfl (fun w hK => (ext rfl rfl)) hS <| ?_
             refine xe (i := 12) kr rfl rfl ?_
             refine soS hK Ty.i30 0 rfl rfl rfl rfl (WdS.one hW6) rfl ?_
             intro w hK
             refine xnk ((K.vle (K.sl hK) hG6)) fun hS => ?_
             refine xt (i := 13) rfl kr rfl rfl (fun w hK => (aB rfl)) hS <| xd kr <| ctn <| ?_
             replace hK : K e w G6 ((b13, row (wc W6) 30) :: (b73, row [] 32) :: (b12, row (ec kd a b c) 32) :: (b11, row (wc Wd) 30) :: (b9, row (wc W2) 30) :: (b7, row (wc W) 30) :: L) := hK
             exact ⟨(G6, b13, W6, rs6), ⟨rfl, rfl, rfl, rfl, trivial⟩, hG6, hW6, K.sl hK (by repeat' (first | exact List.Sublist.refl _ | refine List.Sublist.cons_cons _ ?_ | refine List.Sublist.cons _ ?_))⟩
           ·refine al hK Ty.i30 rfl ?_
            intro b13 w hK
            refine xnk ((K.sl hK)) fun hS => ?_
            refine xe (i := 6) kr rfl rfl ?_
            replace hK : K e w G4 ((b13, row [.int .i64 0, .slice none 0 0, .slice none 0 0, .slice none 0 0, .int .i64 0, .slice none 0 0, .slice none 0 0] 30) :: (b77, row (evc (kd, a, b, c)) 32) :: (A1 ++ ((b73, row [] 32) :: (b12, row (ec kd a b c) 32) :: (b11, row (wc Wd) 30) :: (b9, row (wc W2) 30) :: (b7, row (wc W) 30) :: L))) := hK
            replace hK : K _ _ _ ((b77, row (evc (kd, a, b, c)) 32) :: (A1 ++ ((b13, row [.int .i64 0, .slice none 0 0, .slice none 0 0, .slice none 0 0, .int .i64 0, .slice none 0 0, .slice none 0 0] 30) :: (b73, row [] 32) :: (b12, row (ec kd a b c) 32) :: (b11, row (wc Wd) 30) :: (b9, row (wc W2) 30) :: (b7, row (wc W) 30) :: L))) := hK.reo
            refine apE1x (c := evc) (k := (kd, a, b, c)) (fun _ => rfl) rfl hK underlying43 Ty.i32 rfl rfl rfl ho1 rfl om fun v2 A2 w ho2 hK => ?_
            refine xnk ((K.sl hK)) fun hS => ?_
            refine xe (i := 7) kr rfl rfl ?_
            refine cl call18 rfl (implWorldPlayO_c hE hv hpl2 ho2 hK) ?_
            rintro _ w ⟨G6, W6, rs6, rfl, hG6, hW6, hK⟩
            refine xnk ((K.vle (K.sl hK) hG6)) fun hS => ?_
            refine xt (i := 8) rfl kr rfl rfl (fun w hK => mv) hS <| xt (i := 9) rfl kr rfl rfl (fun w hK => (ext rfl rfl)) hS <| xt (i := 10) rfl kr rfl rfl (fun w hK => (ext rfl rfl)) hS <| ?_
            refine xe (i := 12) kr rfl rfl ?_
            refine soS hK Ty.i30 0 rfl rfl rfl rfl (WdS.one hW6) rfl ?_
            intro w hK
            refine xnk ((K.vle (K.sl hK) hG6)) fun hS => ?_
            refine xt (i := 13) rfl kr rfl rfl (fun w hK => (aB rfl)) hS <| xd kr <| ctn <| ?_
            replace hK : K e w G6 ((b13, row (wc W6) 30) :: (b73, row [] 32) :: (b12, row (ec kd a b c) 32) :: (b11, row (wc Wd) 30) :: (b9, row (wc W2) 30) :: (b7, row (wc W) 30) :: L) := hK
            exact ⟨(G6, b13, W6, rs6), ⟨rfl, rfl, rfl, rfl, trivial⟩, hG6, hW6, K.sl hK (by repeat' (first | exact List.Sublist.refl _ | refine List.Sublist.cons_cons _ ?_ | refine List.Sublist.cons _ ?_))⟩
          ·refine al hK Ty.i30 rfl ?_
           intro b13 w hK
           refine xnk ((K.sl hK)) fun hS => ?_
           refine xe (i := 5) kr rfl rfl ?_
           refine bsS1 hK underlying43 Ty.i32 rfl rfl rfl rfl rfl rfl ?_
           intro b77 w hK
           refine xnk ((K.sl hK)) fun hS => ?_
           refine xe (i := 6) kr rfl rfl ?_
           replace hK : K e w G4 ((b77, row (evc (kd, a, b, c)) 32) :: (b13, row [.int .i64 0, .slice none 0 0, .slice none 0 0, .slice none 0 0, .int .i64 0, .slice none 0 0, .slice none 0 0] 30) :: (A1 ++ ((b73, row [] 32) :: (b12, row (ec kd a b c) 32) :: (b11, row (wc Wd) 30) :: (b9, row (wc W2) 30) :: (b7, row (wc W) 30) :: L))) := hK
           replace hK : K _ _ _ ((b77, row (evc (kd, a, b, c)) 32) :: (A1 ++ ((b13, row [.int .i64 0, .slice none 0 0, .slice none 0 0, .slice none 0 0, .int .i64 0, .slice none 0 0, .slice none 0 0] 30) :: (b73, row [] 32) :: (b12, row (ec kd a b c) 32) :: (b11, row (wc Wd) 30) :: (b9, row (wc W2) 30) :: (b7, row (wc W) 30) :: L))) := hK.reo
           refine apE1x (c := evc) (k := (kd, a, b, c)) (fun _ => rfl) rfl hK underlying43 Ty.i32 rfl rfl rfl ho1 rfl om fun v2 A2 w ho2 hK => ?_
           refine xnk ((K.sl hK)) fun hS => ?_
           refine xe (i := 7) kr rfl rfl ?_
           refine cl call18 rfl (implWorldPlayO_c hE hv hpl2 ho2 hK) ?_
           rintro _ w ⟨G6, W6, rs6, rfl, hG6, hW6, hK⟩
           refine xnk ((K.vle (K.sl hK) hG6)) fun hS => ?_
           refine xt (i := 8) rfl kr rfl rfl (fun w hK => mv) hS <| xt (i := 9) rfl kr rfl rfl (fun w hK => (ext rfl rfl)) hS <| xt (i := 10) rfl kr rfl rfl (fun w hK => (ext rfl rfl)) hS <| ?_
           refine xe (i := 12) kr rfl rfl ?_
           refine soS hK Ty.i30 0 rfl rfl rfl rfl (WdS.one hW6) rfl ?_
           intro w hK
           refine xnk ((K.vle (K.sl hK) hG6)) fun hS => ?_
           refine xt (i := 13) rfl kr rfl rfl (fun w hK => (aB rfl)) hS <| xd kr <| ctn <| ?_
           replace hK : K e w G6 ((b13, row (wc W6) 30) :: (b73, row [] 32) :: (b12, row (ec kd a b c) 32) :: (b11, row (wc Wd) 30) :: (b9, row (wc W2) 30) :: (b7, row (wc W) 30) :: L) := hK
           exact ⟨(G6, b13, W6, rs6), ⟨rfl, rfl, rfl, rfl, trivial⟩, hG6, hW6, K.sl hK (by repeat' (first | exact List.Sublist.refl _ | refine List.Sublist.cons_cons _ ?_ | refine List.Sublist.cons _ ?_))⟩
         ·refine bsS1 hK underlying43 Ty.i32 rfl rfl rfl rfl rfl rfl ?_
          intro b77 w hK
          refine xnk (K.sl hK) fun hS => ?_
          refine xe2 (i := 3) (j := 11) kr rfl rfl rfl rfl ?_ ?_
          ·skip
           refine ap0o (c := evc) (fun _ => rfl) rfl hK underlying43 Ty.i32 rfl rfl rfl rfl hu om fun v1 A1 w ho1 hK => ?_
           refine xnk ((K.sl hK)) fun hS => ?_
           refine xe2 (i := 6) (j := 11) kr rfl rfl rfl rfl ?_ ?_
           ·skip
            replace hK : K e w G4 (A1 ++ ((b77, row (evc (kd, a, b, c)) 32) :: (b73, row [] 32) :: (b12, row (ec kd a b c) 32) :: (b11, row (wc Wd) 30) :: (b9, row (wc W2) 30) :: (b7, row (wc W) 30) :: L)) := hK
            replace hK : K _ _ _ ((b77, row (evc (kd, a, b, c)) 32) :: (A1 ++ ((b73, row [] 32) :: (b12, row (ec kd a b c) 32) :: (b11, row (wc Wd) 30) :: (b9, row (wc W2) 30) :: (b7, row (wc W) 30) :: L))) := hK.reo
            refine apE1x (c := evc) (k := (kd, a, b, c)) (fun _ => rfl) rfl hK underlying43 Ty.i32 rfl rfl rfl ho1 rfl om fun v2 A2 w ho2 hK => ?_
            refine xnk ((K.sl hK)) fun hS => ?_
            refine xe2 (i := 7) (j := 11) kr rfl rfl rfl rfl ?_ ?_
            ·skip
             refine cl call18 rfl (implWorldPlayO_c hE hv hpl2 ho2 hK) ?_
             rintro _ w ⟨G6, W6, rs6, rfl, hG6, hW6, hK⟩
             refine xnk ((K.vle (K.sl hK) hG6)) fun hS => ?_
             refine xt (i := 8) rfl kr rfl rfl (fun w hK => mv) hS <| xt (i := 9) rfl kr rfl rfl (fun w hK => (ext rfl rfl)) hS <| xt (i := 10) rfl kr rfl rfl (fun w hK => (ext rfl rfl)) hS <| ?_
             refine xe (i := 11) kr rfl rfl ?_
             refine al hK Ty.i30 rfl ?_
             intro b13 w hK
             refine xnk ((K.vle (K.sl hK) hG6)) fun hS => ?_
             refine xe (i := 12) kr rfl rfl ?_
             refine soS hK Ty.i30 0 rfl rfl rfl rfl (WdS.one hW6) rfl ?_
             intro w hK
             refine xnk ((K.vle (K.sl hK) hG6)) fun hS => ?_
             refine xt (i := 13) rfl kr rfl rfl (fun w hK => (aB rfl)) hS <| xd kr <| ctn <| ?_
             replace hK : K e w G6 ((b13, row (wc W6) 30) :: (b73, row [] 32) :: (b12, row (ec kd a b c) 32) :: (b11, row (wc Wd) 30) :: (b9, row (wc W2) 30) :: (b7, row (wc W) 30) :: L) := hK
             exact ⟨(G6, b13, W6, rs6), ⟨rfl, rfl, rfl, rfl, trivial⟩, hG6, hW6, K.sl hK (by repeat' (first | exact List.Sublist.refl _ | refine List.Sublist.cons_cons _ ?_ | refine List.Sublist.cons _ ?_))⟩
            ·refine al hK Ty.i30 rfl ?_
             intro b13 w hK
             refine xnk ((K.sl hK)) fun hS => ?_
             refine xe (i := 7) kr rfl rfl ?_
             replace hK : K e w G4 ((b13, row [.int .i64 0, .slice none 0 0, .slice none 0 0, .slice none 0 0, .int .i64 0, .slice none 0 0, .slice none 0 0] 30) :: (A2 ++ ((b73, row [] 32) :: (b12, row (ec kd a b c) 32) :: (b11, row (wc Wd) 30) :: (b9, row (wc W2) 30) :: (b7, row (wc W) 30) :: L))) := hK
             replace hK : K _ _ _ (A2 ++ ((b13, row [.int .i64 0, .slice none 0 0, .slice none 0 0, .slice none 0 0, .int .i64 0, .slice none 0 0, .slice none 0 0] 30) :: (b73, row [] 32) :: (b12, row (ec kd a b c) 32) :: (b11, row (wc Wd) 30) :: (b9, row (wc W2) 30) :: (b7, row (wc W) 30) :: L)) := hK.reo
             refine cl call18 rfl (implWorldPlayO_c hE hv hpl2 ho2 hK) ?_
             rintro _ w ⟨G6, W6, rs6, rfl, hG6, hW6, hK⟩
             refine xnk ((K.vle (K.sl hK) hG6)) fun hS => ?_
             refine xt (i := 8) rfl kr rfl rfl (fun w hK => mv) hS <| xt (i := 9) rfl kr rfl rfl (fun w hK => (ext rfl rfl)) hS <| xt (i := 10) rfl kr rfl rfl (fun w hK => (ext rfl rfl)) hS <| ?_
             refine xe (i := 12) kr rfl rfl ?_
             refine soS hK Ty.i30 0 rfl rfl rfl rfl (WdS.one hW6) rfl ?_
             intro w hK
             refine xnk ((K.vle (K.sl hK) hG6)) fun hS => ?_
             refine xt (i := 13) rfl kr rfl rfl (fun w hK => (aB rfl)) hS <| xd kr <| ctn <| ?_
             replace hK : K e w G6 ((b13, row (wc W6) 30) :: (b73, row [] 32) :: (b12, row (ec kd a b c) 32) :: (b11, row (wc Wd) 30) :: (b9, row (wc W2) 30) :: (b7, row (wc W) 30) :: L) := hK
             exact ⟨(G6, b13, W6, rs6), ⟨rfl, rfl, rfl, rfl, trivial⟩, hG6, hW6, K.sl hK (by repeat' (first | exact List.Sublist.refl _ | refine List.Sublist.cons_cons _ ?_ | refine List.Sublist.cons _ ?_))⟩
           ·refine al hK Ty.i30 rfl ?_
            intro b13 w hK
            refine xnk ((K.sl hK)) fun hS => ?_
            refine xe (i := 6) kr rfl rfl ?_
            replace hK : K e w G4 ((b13, row [.int .i64 0, .slice none 0 0, .slice none 0 0, .slice none 0 0, .int .i64 0, .slice none 0 0, .slice none 0 0] 30) :: (A1 ++ ((b77, row (evc (kd, a, b, c)) 32) :: (b73, row [] 32) :: (b12, row (ec kd a b c) 32) :: (b11, row (wc Wd) 30) :: (b9, row (wc W2) 30) :: (b7, row (wc W) 30) :: L))) := hK
            replace hK : K _ _ _ ((b77, row (evc (kd, a, b, c)) 32) :: (A1 ++ ((b13, row [.int .i64 0, .slice none 0 0, .slice none 0 0, .slice none 0 0, .int .i64 0, .slice none 0 0, .slice none 0 0] 30) :: (b73, row [] 32) :: (b12, row (ec kd a b c) 32) :: (b11, row (wc Wd) 30) :: (b9, row (wc W2) 30) :: (b7, row (wc W) 30) :: L))) := hK.reo
            refine apE1x (c := evc) (k := (kd, a, b, c)) (fun _ => rfl) rfl hK underlying43 Ty.i32 rfl rfl rfl ho1 rfl om fun v2 A2 w ho2 hK => ?_
            refine xnk ((K.sl hK)) fun hS => ?_
            refine xe (i := 7) kr rfl rfl ?_
            refine cl call18 rfl (implWorldPlayO_c hE hv hpl2 ho2 hK) ?_
            rintro _ w ⟨G6, W6, rs6, rfl, hG6, hW6, hK⟩
            refine xnk ((K.vle (K.sl hK) hG6)) fun hS => ?_
            refine xt (i := 8) rfl kr rfl rfl (fun w hK => mv) hS <| xt (i := 9) rfl kr rfl rfl (fun w hK => (ext rfl rfl)) hS <| xt (i := 10) rfl kr rfl rfl (fun w hK => (ext rfl rfl)) hS <| ?_
            refine xe (i := 12) kr rfl rfl ?_
            refine soS hK Ty.i30 0 rfl rfl rfl rfl (WdS.one hW6) rfl ?_
            intro w hK
            refine xnk ((K.vle (K.sl hK) hG6)) fun hS => ?_
            refine xt (i := 13) rfl kr rfl rfl (fun w hK => (aB rfl)) hS <| xd kr <| ctn <| ?_
            replace hK : K e w G6 ((b13, row (wc W6) 30) :: (b73, row [] 32) :: (b12, row (ec kd a b c) 32) :: (b11, row (wc Wd) 30) :: (b9, row (wc W2) 30) :: (b7, row (wc W) 30) :: L) := hK
            exact ⟨(G6, b13, W6, rs6), ⟨rfl, rfl, rfl, rfl, trivial⟩, hG6, hW6, K.sl hK (by repeat' (first | exact List.Sublist.refl _ | refine List.Sublist.cons_cons _ ?_ | refine List.Sublist.cons _ ?_))⟩
          ·refine al hK Ty.i30 rfl ?_
           intro b13 w hK
           refine xnk (K.sl hK) fun hS => ?_
           refine xe (i := 3) kr rfl rfl ?_
           refine ap0o (c := evc) (fun _ => rfl) rfl hK underlying43 Ty.i32 rfl rfl rfl rfl hu om fun v1 A1 w ho1 hK => ?_
           refine xnk ((K.sl hK)) fun hS => ?_
           refine xe (i := 6) kr rfl rfl ?_
           replace hK : K e w G4 (A1 ++ ((b13, row [.int .i64 0, .slice none 0 0, .slice none 0 0, .slice none 0 0, .int .i64 0, .slice none 0 0, .slice none 0 0] 30) :: (b77, row (evc (kd, a, b, c)) 32) :: (b73, row [] 32) :: (b12, row (ec kd a b c) 32) :: (b11, row (wc Wd) 30) :: (b9, row (wc W2) 30) :: (b7, row (wc W) 30) :: L)) := hK
           replace hK : K _ _ _ ((b77, row (evc (kd, a, b, c)) 32) :: (A1 ++ ((b13, row [.int .i64 0, .slice none 0 0, .slice none 0 0, .slice none 0 0, .int .i64 0, .slice none 0 0, .slice none 0 0] 30) :: (b73, row [] 32) :: (b12, row (ec kd a b c) 32) :: (b11, row (wc Wd) 30) :: (b9, row (wc W2) 30) :: (b7, row (wc W) 30) :: L))) := hK.reo
           refine apE1x (c := evc) (k := (kd, a, b, c)) (fun _ => rfl) rfl hK underlying43 Ty.i32 rfl rfl rfl ho1 rfl om fun v2 A2 w ho2 hK => ?_
           refine xnk ((K.sl hK)) fun hS => ?_
           refine xe (i := 7) kr rfl rfl ?_
           refine cl call18 rfl (implWorldPlayO_c hE hv hpl2 ho2 hK) ?_
           rintro _ w ⟨G6, W6, rs6, rfl, hG6, hW6, hK⟩
           refine xnk ((K.vle (K.sl hK) hG6)) fun hS => ?_
           refine xt (i := 8) rfl kr rfl rfl (fun w hK => mv) hS <| xt (i := 9) rfl kr rfl rfl (fun w hK => (ext rfl rfl)) hS <| xt (i := 10) rfl kr rfl rfl (fun w hK => (ext rfl rfl)) hS <| ?_
           refine xe (i := 12) kr rfl rfl ?_
           refine soS hK Ty.i30 0 rfl rfl rfl rfl (WdS.one hW6) rfl ?_
           intro w hK
           refine xnk ((K.vle (K.sl hK) hG6)) fun hS => ?_
           refine xt (i := 13) rfl kr rfl rfl (fun w hK => (aB rfl)) hS <| xd kr <| ctn <| ?_
           replace hK : K e w G6 ((b13, row (wc W6) 30) :: (b73, row [] 32) :: (b12, row (ec kd a b c) 32) :: (b11, row (wc Wd) 30) :: (b9, row (wc W2) 30) :: (b7, row (wc W) 30) :: L) := hK
           exact ⟨(G6, b13, W6, rs6), ⟨rfl, rfl, rfl, rfl, trivial⟩, hG6, hW6, K.sl hK (by repeat' (first | exact List.Sublist.refl _ | refine List.Sublist.cons_cons _ ?_ | refine List.Sublist.cons _ ?_))⟩
         ·refine al hK Ty.i30 rfl ?_
          intro b13 w hK
          refine xnk (K.sl hK) fun hS => ?_
          refine xe2 (i := 3) (j := 5) kr rfl rfl rfl rfl ?_ ?_
          ·skip
           refine ap0o (c := evc) (fun _ => rfl) rfl hK underlying43 Ty.i32 rfl rfl rfl rfl hu om fun v1 A1 w ho1 hK => ?_
           refine xnk ((K.sl hK)) fun hS => ?_
           refine xe (i := 5) kr rfl rfl ?_
           refine bsS1 hK underlying43 Ty.i32 rfl rfl rfl rfl rfl rfl ?_
           intro b77 w hK
           refine xnk ((K.sl hK)) fun hS => ?_
           refine xe (i := 6) kr rfl rfl ?_
           replace hK : K e w G4 ((b77, row (evc (kd, a, b, c)) 32) :: (A1 ++ ((b13, row [.int .i64 0, .slice none 0 0, .slice none 0 0, .slice none 0 0, .int .i64 0, .slice none 0 0, .slice none 0 0] 30) :: (b73, row [] 32) :: (b12, row (ec kd a b c) 32) :: (b11, row (wc Wd) 30) :: (b9, row (wc W2) 30) :: (b7, row (wc W) 30) :: L))) := hK
           refine apE1x (c := evc) (k := (kd, a, b, c)) (fun _ => rfl) rfl hK underlying43 Ty.i32 rfl rfl rfl ho1 rfl om fun v2 A2 w ho2 hK => ?_
           refine xnk ((K.sl hK)) fun hS => ?_
           refine xe (i := 7) kr rfl rfl ?_
           refine cl call18 rfl (implWorldPlayO_c hE hv hpl2 ho2 hK) ?_
           rintro _ w ⟨G6, W6, rs6, rfl, hG6, hW6, hK⟩
           refine xnk ((K.vle (K.sl hK) hG6)) fun hS => ?_
           refine xt (i := 8) rfl kr rfl rfl (fun w hK => mv) hS <| xt (i := 9) rfl kr rfl rfl (fun w hK => (ext rfl rfl)) hS <| xt (i := 10) rfl kr rfl rfl (fun w hK => (ext rfl rfl)) hS <| ?_
           refine xe (i := 12) kr rfl rfl ?_
           refine soS hK Ty.i30 0 rfl rfl rfl rfl (WdS.one hW6) rfl ?_
           intro w hK
           refine xnk ((K.vle (K.sl hK) hG6)) fun hS => ?_
           refine xt (i := 13) rfl kr rfl rfl (fun w hK => (aB rfl)) hS <| xd kr <| ctn <| ?_
           replace hK : K e w G6 ((b13, row (wc W6) 30) :: (b73, row [] 32) :: (b12, row (ec kd a b c) 32) :: (b11, row (wc Wd) 30) :: (b9, row (wc W2) 30) :: (b7, row (wc W) 30) :: L) := hK
           exact ⟨(G6, b13, W6, rs6), ⟨rfl, rfl, rfl, rfl, trivial⟩, hG6, hW6, K.sl hK (by repeat' (first | exact List.Sublist.refl _ | refine List.Sublist.cons_cons _ ?_ | refine List.Sublist.cons _ ?_))⟩
          ·refine bsS1 hK underlying43 Ty.i32 rfl rfl rfl rfl rfl rfl ?_
           intro b77 w hK
           refine xnk (K.sl hK) fun hS => ?_
           refine xe (i := 3) kr rfl rfl ?_
           refine ap0o (c := evc) (fun _ => rfl) rfl hK underlying43 Ty.i32 rfl rfl rfl rfl hu om fun v1 A1 w ho1 hK => ?_
           refine xnk ((K.sl hK)) fun hS => ?_
           refine xe (i := 6) kr rfl rfl ?_
           replace hK : K e w G4 (A1 ++ ((b77, row (evc (kd, a, b, c)) 32) :: (b13, row [.int .i64 0, .slice none 0 0, .slice none 0 0, .slice none 0 0, .int .i64 0, .slice none 0 0, .slice none 0 0] 30) :: (b73, row [] 32) :: (b12, row (ec kd a b c) 32) :: (b11, row (wc Wd) 30) :: (b9, row (wc W2) 30) :: (b7, row (wc W) 30) :: L)) := hK
           replace hK : K _ _ _ ((b77, row (evc (kd, a, b, c)) 32) :: (A1 ++ ((b13, row [.int .i64 0, .slice none 0 0, .slice none 0 0, .slice none 0 0, .int .i64 0, .slice none 0 0, .slice none 0 0] 30) :: (b73, row [] 32) :: (b12, row (ec kd a b c) 32) :: (b11, row (wc Wd) 30) :: (b9, row (wc W2) 30) :: (b7, row (wc W) 30) :: L))) := hK.reo
           refine apE1x (c := evc) (k := (kd, a, b, c)) (fun _ => rfl) rfl hK underlying43 Ty.i32 rfl rfl rfl ho1 rfl om fun v2 A2 w ho2 hK => ?_
           refine xnk ((K.sl hK)) fun hS => ?_
           refine xe (i := 7) kr rfl rfl ?_
           refine cl call18 rfl (implWorldPlayO_c hE hv hpl2 ho2 hK) ?_
           rintro _ w ⟨G6, W6, rs6, rfl, hG6, hW6, hK⟩
           refine xnk ((K.vle (K.sl hK) hG6)) fun hS => ?_
           refine xt (i := 8) rfl kr rfl rfl (fun w hK => mv) hS <| xt (i := 9) rfl kr rfl rfl (fun w hK => (ext rfl rfl)) hS <| xt (i := 10) rfl kr rfl rfl (fun w hK => (ext rfl rfl)) hS <| ?_
           refine xe (i := 12) kr rfl rfl ?_
           refine soS hK Ty.i30 0 rfl rfl rfl rfl (WdS.one hW6) rfl ?_
           intro w hK
           refine xnk ((K.vle (K.sl hK) hG6)) fun hS => ?_
           refine xt (i := 13) rfl kr rfl rfl (fun w hK => (aB rfl)) hS <| xd kr <| ctn <| ?_
           replace hK : K e w G6 ((b13, row (wc W6) 30) :: (b73, row [] 32) :: (b12, row (ec kd a b c) 32) :: (b11, row (wc Wd) 30) :: (b9, row (wc W2) 30) :: (b7, row (wc W) 30) :: L) := hK
           exact ⟨(G6, b13, W6, rs6), ⟨rfl, rfl, rfl, rfl, trivial⟩, hG6, hW6, K.sl hK (by repeat' (first | exact List.Sublist.refl _ | refine List.Sublist.cons_cons _ ?_ | refine List.Sublist.cons _ ?_))⟩
        ·refine bsS1 hK underlying43 Ty.i32 rfl rfl rfl rfl rfl rfl ?_
         intro b77 w hK
         refine xnk (K.sl hK) fun hS => ?_
         refine xe2 (i := 1) (j := 11) kr rfl rfl rfl rfl ?_ ?_
         ·refine bs0 hK underlying43 Ty.i32 ?_
          intro b73 w hK
          refine xnk (K.sl hK) fun hS => ?_
          refine xe2 (i := 3) (j := 11) kr rfl rfl rfl rfl ?_ ?_
          ·skip
           refine ap0o (c := evc) (fun _ => rfl) rfl hK underlying43 Ty.i32 rfl rfl rfl rfl hu om fun v1 A1 w ho1 hK => ?_
           refine xnk ((K.sl hK)) fun hS => ?_
           refine xe2 (i := 6) (j := 11) kr rfl rfl rfl rfl ?_ ?_
           ·skip
            replace hK : K e w G4 (A1 ++ ((b73, row [] 32) :: (b77, row (evc (kd, a, b, c)) 32) :: (b12, row (ec kd a b c) 32) :: (b11, row (wc Wd) 30) :: (b9, row (wc W2) 30) :: (b7, row (wc W) 30) :: L)) := hK
            replace hK : K _ _ _ ((b77, row (evc (kd, a, b, c)) 32) :: (A1 ++ ((b73, row [] 32) :: (b12, row (ec kd a b c) 32) :: (b11, row (wc Wd) 30) :: (b9, row (wc W2) 30) :: (b7, row (wc W) 30) :: L))) := hK.reo
            refine apE1x (c := evc) (k := (kd, a, b, c)) (fun _ => rfl) rfl hK underlying43 Ty.i32 rfl rfl rfl ho1 rfl om fun v2 A2 w ho2 hK => ?_
            refine xnk ((K.sl hK)) fun hS => ?_
            refine xe2 (i := 7) (j := 11) kr rfl rfl rfl rfl ?_ ?_
            ·skip
             refine cl call18 rfl (implWorldPlayO_c hE hv hpl2 ho2 hK) ?_
             rintro _ w ⟨G6, W6, rs6, rfl, hG6, hW6, hK⟩
             refine xnk ((K.vle (K.sl hK) hG6)) fun hS => ?_
             refine xt (i := 8) rfl kr rfl rfl (fun w hK => mv) hS <| xt (i := 9) rfl kr rfl rfl (fun w hK => (ext rfl rfl)) hS <| xt (i := 10) rfl kr rfl rfl (fun w hK => (ext rfl rfl)) hS <| ?_
             refine xe (i := 11) kr rfl rfl ?_
             refine al hK Ty.i30 rfl ?_
             intro b13 w hK
             refine xnk ((K.vle (K.sl hK) hG6)) fun hS => ?_
             refine xe (i := 12) kr rfl rfl ?_
             refine soS hK Ty.i30 0 rfl rfl rfl rfl (WdS.one hW6) rfl ?_
             intro w hK
             refine xnk ((K.vle (K.sl hK) hG6)) fun hS => ?_
             refine xt (i := 13) rfl kr rfl rfl (fun w hK => (aB rfl)) hS <| xd kr <| ctn <| ?_
             replace hK : K e w G6 ((b13, row (wc W6) 30) :: (b73, row [] 32) :: (b12, row (ec kd a b c) 32) :: (b11, row (wc Wd) 30) :: (b9, row (wc W2) 30) :: (b7, row (wc W) 30) :: L) := hK
             exact ⟨(G6, b13, W6, rs6), ⟨rfl, rfl, rfl, rfl, trivial⟩, hG6, hW6, K.sl hK (by repeat' (first | exact List.Sublist.refl _ | refine List.Sublist.cons_cons _ ?_ | refine List.Sublist.cons _ ?_))⟩
            ·refine al hK Ty.i30 rfl ?_
             intro b13 w hK
             refine xnk ((K.sl hK)) fun hS => ?_
             refine xe (i := 7) kr rfl rfl ?_
             replace hK : K e w G4 ((b13, row [.int .i64 0, .slice none 0 0, .slice none 0 0, .slice none 0 0, .int .i64 0, .slice none 0 0, .slice none 0 0] 30) :: (A2 ++ ((b73, row [] 32) :: (b12, row (ec kd a b c) 32) :: (b11, row (wc Wd) 30) :: (b9, row (wc W2) 30) :: (b7, row (wc W) 30) :: L))) := hK
             replace hK : K _ _ _ (A2 ++ ((b13, row [.int .i64 0, .slice none 0 0, .slice none 0 0, .slice none 0 0, .int .i64 0, .slice none 0 0, .slice none 0 0] 30) :: (b73, row [] 32) :: (b12, row (ec kd a b c) 32) :: (b11, row (wc Wd) 30) :: (b9, row (wc W2) 30) :: (b7, row (wc W) 30) :: L)) := hK.reo
             refine cl call18 rfl (implWorldPlayO_c hE hv hpl2 ho2 hK) ?_
             rintro _ w ⟨G6, W6, rs6, rfl, hG6, hW6, hK⟩
             refine xnk ((K.vle (K.sl hK) hG6)) fun hS => ?_
             refine xt (i := 8) rfl kr rfl rfl (fun w hK => mv) hS <| xt (i := 9) rfl kr rfl rfl (fun w hK => (ext rfl rfl)) hS <| xt (i := 10) rfl kr rfl rfl (fun w hK => (ext rfl rfl)) hS <| ?_
             refine xe (i := 12) kr rfl rfl ?_
             refine soS hK Ty.i30 0 rfl rfl rfl rfl (WdS.one hW6) rfl ?_
             intro w hK
             refine xnk ((K.vle (K.sl hK) hG6)) fun hS => ?_
             refine xt (i := 13) rfl kr rfl rfl (fun w hK => (aB rfl)) hS <| xd kr <| ctn <| ?_
             replace hK : K e w G6 ((b13, row (wc W6) 30) :: (b73, row [] 32) :: (b12, row (ec kd a b c) 32) :: (b11, row (wc Wd) 30) :: (b9, row (wc W2) 30) :: (b7, row (wc W) 30) :: L) := hK
             exact ⟨(G6, b13, W6, rs6), ⟨rfl, rfl, rfl, rfl, trivial⟩, hG6, hW6, K.sl hK (by repeat' (first | exact List.Sublist.refl _ | refine List.Sublist.cons_cons _ ?_ | refine List.Sublist.cons _ ?_))⟩
           ·refine al hK Ty.i30 rfl ?_
            intro b13 w hK
            refine xnk ((K.sl hK)) fun hS => ?_
            refine xe (i := 6) kr rfl rfl ?_
            replace hK : K e w G4 ((b13, row [.int .i64 0, .slice none 0 0, .slice none 0 0, .slice none 0 0, .int .i64 0, .slice none 0 0, .slice none 0 0] 30) :: (A1 ++ ((b73, row [] 32) :: (b77, row (evc (kd, a, b, c)) 32) :: (b12, row (ec kd a b c) 32) :: (b11, row (wc Wd) 30) :: (b9, row (wc W2) 30) :: (b7, row (wc W) 30) :: L))) := hK
            replace hK : K _ _ _ ((b77, row (evc (kd, a, b, c)) 32) :: (A1 ++ ((b13, row [.int .i64 0, .slice none 0 0, .slice none 0 0, .slice none 0 0, .int .i64 0, .slice none 0 0, .slice none 0 0] 30) :: (b73, row [] 32) :: (b12, row (ec kd a b c) 32) :: (b11, row (wc Wd) 30) :: (b9, row (wc W2) 30) :: (b7, row (wc W) 30) :: L))) := hK.reo
            refine apE1x (c := evc) (k := (kd, a, b, c)) (fun _ => rfl) rfl hK underlying43 Ty.i32 rfl rfl rfl ho1 rfl om fun v2 A2 w ho2 hK => ?_
            refine xnk ((K.sl hK)) fun hS => ?_
            refine xe (i := 7) kr rfl rfl ?_
            refine cl call18 rfl (implWorldPlayO_c hE hv hpl2 ho2 hK) ?_
            rintro _ w ⟨G6, W6, rs6, rfl, hG6, hW6, hK⟩
            refine xnk ((K.vle (K.sl hK) hG6)) fun hS => ?_
            refine xt (i := 8) rfl kr rfl rfl (fun w hK => mv) hS <| xt (i := 9) rfl kr rfl rfl (fun w hK => (ext rfl rfl)) hS <| xt (i := 10) rfl kr rfl rfl (fun w hK => (ext rfl rfl)) hS <| ?_
            refine xe (i := 12) kr rfl rfl ?_
            refine soS hK Ty.i30 0 rfl rfl rfl rfl (WdS.one hW6) rfl ?_
            intro w hK
            refine xnk ((K.vle (K.sl hK) hG6)) fun hS => ?_
            refine xt (i := 13) rfl kr rfl rfl (fun w hK => (aB rfl)) hS <| xd kr <| ctn <| ?_
            replace hK : K e w G6 ((b13, row (wc W6) 30) :: (b73, row [] 32) :: (b12, row (ec kd a b c) 32) :: (b11, row (wc Wd) 30) :: (b9, row (wc W2) 30) :: (b7, row (wc W) 30) :: L) := hK
            exact ⟨(G6, b13, W6, rs6), ⟨rfl, rfl, rfl, rfl, trivial⟩, hG6, hW6, K.sl hK (by repeat' (first | exact List.Sublist.refl _ | refine List.Sublist.cons_cons _ ?_ | refine List.Sublist.cons _ ?_))⟩
          ·refine al hK Ty.i30 rfl ?_
           intro b13 w hK
           refine xnk (K.sl hK) fun hS => ?_
           refine xe (i := 3) kr rfl rfl ?_
           refine ap0o (c := evc) (fun _ => rfl) rfl hK underlying43 Ty.i32 rfl rfl rfl rfl hu om fun v1 A1 w ho1 hK => ?_
           refine xnk ((K.sl hK)) fun hS => ?_
           refine xe (i := 6) kr rfl rfl ?_
           replace hK : K e w G4 (A1 ++ ((b13, row [.int .i64 0, .slice none 0 0, .slice none 0 0, .slice none 0 0, .int .i64 0, .slice none 0 0, .slice none 0 0] 30) :: (b73, row [] 32) :: (b77, row (evc (kd, a, b, c)) 32) :: (b12, row (ec kd a b c) 32) :: (b11, row (wc Wd) 30) :: (b9, row (wc W2) 30) :: (b7, row (wc W) 30) :: L)) := hK
           replace hK : K _ _ _ ((b77, row (evc (kd, a, b, c)) 32) :: (A1 ++ ((b13, row [.int .i64 0, .slice none 0 0, .slice none 0 0, .slice none 0 0, .int .i64 0, .slice none 0 0, .slice none 0 0] 30) :: (b73, row [] 32) :: (b12, row (ec kd a b c) 32) :: (b11, row (wc Wd) 30) :: (b9, row (wc W2) 30) :: (b7, row (wc W) 30) :: L))) := hK.reo
           refine apE1x (c := evc) (k := (kd, a, b, c)) (fun _ => rfl) rfl hK underlying43 Ty.i32 rfl rfl rfl ho1 rfl om fun v2 A2 w ho2 hK => ?_
           refine xnk ((K.sl hK)) fun hS => ?_
           refine xe (i := 7) kr rfl rfl ?_
           refine cl call18 rfl (implWorldPlayO_c hE hv hpl2 ho2 hK) ?_
           rintro _ w ⟨G6, W6, rs6, rfl, hG6, hW6, hK⟩
           refine xnk ((K.vle (K.sl hK) hG6)) fun hS => ?_
           refine xt (i := 8) rfl kr rfl rfl (fun w hK => mv) hS <| xt (i := 9) rfl kr rfl rfl (fun w hK => (ext rfl rfl)) hS <| xt (i := 10) rfl kr rfl rfl (fun w hK => (ext rfl rfl)) hS <| ?_
           refine xe (i := 12) kr rfl rfl ?_
           refine soS hK Ty.i30 0 rfl rfl rfl rfl (WdS.one hW6) rfl ?_
           intro w hK
           refine xnk ((K.vle (K.sl hK) hG6)) fun hS => ?_
           refine xt (i := 13) rfl kr rfl rfl (fun w hK => (aB rfl)) hS <| xd kr <| ctn <| ?_
           replace hK : K e w G6 ((b13, row (wc W6) 30) :: (b73, row [] 32) :: (b12, row (ec kd a b c) 32) :: (b11, row (wc Wd) 30) :: (b9, row (wc W2) 30) :: (b7, row (wc W) 30) :: L) := hK
           exact ⟨(G6, b13, W6, rs6), ⟨rfl, rfl, rfl, rfl, trivial⟩, hG6, hW6, K.sl hK (by repeat' (first | exact List.Sublist.refl _ | refine List.Sublist.cons_cons _ ?_ | refine List.Sublist.cons _ ?_))⟩
         ·refine al hK Ty.i30 rfl ?_
          intro b13 w hK
          refine xnk (K.sl hK) fun hS => ?_
          refine xe (i := 1) kr rfl rfl ?_
          refine bs0 hK underlying43 Ty.i32 ?_
          intro b73 w hK
          refine xnk (K.sl hK) fun hS => ?_
          refine xe (i := 3) kr rfl rfl ?_
          refine ap0o (c := evc) (fun _ => rfl) rfl hK underlying43 Ty.i32 rfl rfl rfl rfl hu om fun v1 A1 w ho1 hK => ?_
          refine xnk ((K.sl hK)) fun hS => ?_
          refine xe (i := 6) kr rfl rfl ?_
          replace hK : K e w G4 (A1 ++ ((b73, row [] 32) :: (b13, row [.int .i64 0, .slice none 0 0, .slice none 0 0, .slice none 0 0, .int .i64 0, .slice none 0 0, .slice none 0 0] 30) :: (b77, row (evc (kd, a, b, c)) 32) :: (b12, row (ec kd a b c) 32) :: (b11, row (wc Wd) 30) :: (b9, row (wc W2) 30) :: (b7, row (wc W) 30) :: L)) := hK
          replace hK : K _ _ _ ((b77, row (evc (kd, a, b, c)) 32) :: (A1 ++ ((b73, row [] 32) :: (b13, row [.int .i64 0, .slice none 0 0, .slice none 0 0, .slice none 0 0, .int .i64 0, .slice none 0 0, .slice none 0 0] 30) :: (b12, row (ec kd a b c) 32) :: (b11, row (wc Wd) 30) :: (b9, row (wc W2) 30) :: (b7, row (wc W) 30) :: L))) := hK.reo
          refine apE1x (c := evc) (k := (kd, a, b, c)) (fun _ => rfl) rfl hK underlying43 Ty.i32 rfl rfl rfl ho1 rfl om fun v2 A2 w ho2 hK => ?_
          refine xnk ((K.sl hK)) fun hS => ?_
          refine xe (i := 7) kr rfl rfl ?_
          refine cl call18 rfl (implWorldPlayO_c hE hv hpl2 ho2 hK) ?_
          rintro _ w ⟨G6, W6, rs6, rfl, hG6, hW6, hK⟩
          refine xnk ((K.vle (K.sl hK) hG6)) fun hS => ?_
          refine xt (i := 8) rfl kr rfl rfl (fun w hK => mv) hS <| xt (i := 9) rfl kr rfl rfl (fun w hK => (ext rfl rfl)) hS <| xt (i := 10) rfl kr rfl rfl (fun w hK => (ext rfl rfl)) hS <| ?_
          refine xe (i := 12) kr rfl rfl ?_
          refine soS hK Ty.i30 1 rfl rfl rfl rfl (WdS.one hW6) rfl ?_
          intro w hK
          refine xnk ((K.vle (K.sl hK) hG6)) fun hS => ?_
          refine xt (i := 13) rfl kr rfl rfl (fun w hK => (aB rfl)) hS <| xd kr <| ctn <| ?_
          replace hK : K e w G6 ((b73, row [] 32) :: (b13, row (wc W6) 30) :: (b12, row (ec kd a b c) 32) :: (b11, row (wc Wd) 30) :: (b9, row (wc W2) 30) :: (b7, row (wc W) 30) :: L) := hK
          exact ⟨(G6, b13, W6, rs6), ⟨rfl, rfl, rfl, rfl, trivial⟩, hG6, hW6, K.sl hK (by repeat' (first | exact List.Sublist.refl _ | refine List.Sublist.cons_cons _ ?_ | refine List.Sublist.cons _ ?_))⟩
        ·refine al hK Ty.i30 rfl ?_
         intro b13 w hK
         refine xnk (K.sl hK) fun hS => ?_
         refine xe2 (i := 1) (j := 5) kr rfl rfl rfl rfl ?_ ?_
         ·refine bs0 hK underlying43 Ty.i32 ?_
          intro b73 w hK
          refine xnk (K.sl hK) fun hS => ?_
          refine xe2 (i := 3) (j := 5) kr rfl rfl rfl rfl ?_ ?_
          ·skip
           refine ap0o (c := evc) (fun _ => rfl) rfl hK underlying43 Ty.i32 rfl rfl rfl rfl hu om fun v1 A1 w ho1 hK => ?_
           refine xnk ((K.sl hK)) fun hS => ?_
           refine xe (i := 5) kr rfl rfl ?_
           refine bsS1 hK underlying43 Ty.i32 rfl rfl rfl rfl rfl rfl ?_
           intro b77 w hK
           refine xnk ((K.sl hK)) fun hS => ?_
           refine xe (i := 6) kr rfl rfl ?_
           replace hK : K e w G4 ((b77, row (evc (kd, a, b, c)) 32) :: (A1 ++ ((b73, row [] 32) :: (b13, row [.int .i64 0, .slice none 0 0, .slice none 0 0, .slice none 0 0, .int .i64 0, .slice none 0 0, .slice none 0 0] 30) :: (b12, row (ec kd a b c) 32) :: (b11, row (wc Wd) 30) :: (b9, row (wc W2) 30) :: (b7, row (wc W) 30) :: L))) := hK
           refine apE1x (c := evc) (k := (kd, a, b, c)) (fun _ => rfl) rfl hK underlying43 Ty.i32 rfl rfl rfl ho1 rfl om fun v2 A2 w ho2 hK => ?_
           refine xnk ((K.sl hK)) fun hS => ?_
           refine xe (i := 7) kr rfl rfl ?_
           refine cl call18 rfl (implWorldPlayO_c hE hv hpl2 ho2 hK) ?_
           rintro _ w ⟨G6, W6, rs6, rfl, hG6, hW6, hK⟩
           refine xnk ((K.vle (K.sl hK) hG6)) fun hS => ?_
           refine xt (i := 8) rfl kr rfl rfl (fun w hK => mv) hS <| xt (i := 9) rfl kr rfl rfl (fun w hK => (ext rfl rfl)) hS <| xt (i := 10) rfl kr rfl rfl (fun w hK => (ext rfl rfl)) hS <| ?_
           refine xe (i := 12) kr rfl rfl ?_
           refine soS hK Ty.i30 1 rfl rfl rfl rfl (WdS.one hW6) rfl ?_
           intro w hK
           refine xnk ((K.vle (K.sl hK) hG6)) fun hS => ?_
           refine xt (i := 13) rfl kr rfl rfl (fun w hK => (aB rfl)) hS <| xd kr <| ctn <| ?_
           replace hK : K e w G6 ((b73, row [] 32) :: (b13, row (wc W6) 30) :: (b12, row (ec kd a b c) 32) :: (b11, row (wc Wd) 30) :: (b9, row (wc W2) 30) :: (b7, row (wc W) 30) :: L) := hK
           exact ⟨(G6, b13, W6, rs6), ⟨rfl, rfl, rfl, rfl, trivial⟩, hG6, hW6, K.sl hK (by repeat' (first | exact List.Sublist.refl _ | refine List.Sublist.cons_cons _ ?_ | refine List.Sublist.cons _ ?_))⟩
          ·refine bsS1 hK underlying43 Ty.i32 rfl rfl rfl rfl rfl rfl ?_
           intro b77 w hK
           refine xnk (K.sl hK) fun hS => ?_
           refine xe (i := 3) kr rfl rfl ?_
           refine ap0o (c := evc) (fun _ => rfl) rfl hK underlying43 Ty.i32 rfl rfl rfl rfl hu om fun v1 A1 w ho1 hK => ?_
           refine xnk ((K.sl hK)) fun hS => ?_
           refine xe (i := 6) kr rfl rfl ?_
           replace hK : K e w G4 (A1 ++ ((b77, row (evc (kd, a, b, c)) 32) :: (b73, row [] 32) :: (b13, row [.int .i64 0, .slice none 0 0, .slice none 0 0, .slice none 0 0, .int .i64 0, .slice none 0 0, .slice none 0 0] 30) :: (b12, row (ec kd a b c) 32) :: (b11, row (wc Wd) 30) :: (b9, row (wc W2) 30) :: (b7, row (wc W) 30) :: L)) := hK
           replace hK : K _ _ _ ((b77, row (evc (kd, a, b, c)) 32) :: (A1 ++ ((b73, row [] 32) :: (b13, row [.int .i64 0, .slice none 0 0, .slice none 0 0, .slice none 0 0, .int .i64 0, .slice none 0 0, .slice none 0 0] 30) :: (b12, row (ec kd a b c) 32) :: (b11, row (wc Wd) 30) :: (b9, row (wc W2) 30) :: (b7, row (wc W) 30) :: L))) := hK.reo
           refine apE1x (c := evc) (k := (kd, a, b, c)) (fun _ => rfl) rfl hK underlying43 Ty.i32 rfl rfl rfl ho1 rfl om fun v2 A2 w ho2 hK => ?_
           refine xnk ((K.sl hK)) fun hS => ?_
           refine xe (i := 7) kr rfl rfl ?_
           refine cl call18 rfl (implWorldPlayO_c hE hv hpl2 ho2 hK) ?_
           rintro _ w ⟨G6, W6, rs6, rfl, hG6, hW6, hK⟩
           refine xnk ((K.vle (K.sl hK) hG6)) fun hS => ?_
           refine xt (i := 8) rfl kr rfl rfl (fun w hK => mv) hS <| xt (i := 9) rfl kr rfl rfl (fun w hK => (ext rfl rfl)) hS <| xt (i := 10) rfl kr rfl rfl (fun w hK => (ext rfl rfl)) hS <| ?_
           refine xe (i := 12) kr rfl rfl ?_
           refine soS hK Ty.i30 1 rfl rfl rfl rfl (WdS.one hW6) rfl ?_
           intro w hK
           refine xnk ((K.vle (K.sl hK) hG6)) fun hS => ?_
           refine xt (i := 13) rfl kr rfl rfl (fun w hK => (aB rfl)) hS <| xd kr <| ctn <| ?_
           replace hK : K e w G6 ((b73, row [] 32) :: (b13, row (wc W6) 30) :: (b12, row (ec kd a b c) 32) :: (b11, row (wc Wd) 30) :: (b9, row (wc W2) 30) :: (b7, row (wc W) 30) :: L) := hK
           exact ⟨(G6, b13, W6, rs6), ⟨rfl, rfl, rfl, rfl, trivial⟩, hG6, hW6, K.sl hK (by repeat' (first | exact List.Sublist.refl _ | refine List.Sublist.cons_cons _ ?_ | refine List.Sublist.cons _ ?_))⟩
         ·refine bsS1 hK underlying43 Ty.i32 rfl rfl rfl rfl rfl rfl ?_
          intro b77 w hK
          refine xnk (K.sl hK) fun hS => ?_
          refine xe (i := 1) kr rfl rfl ?_
          refine bs0 hK underlying43 Ty.i32 ?_
          intro b73 w hK
          refine xnk (K.sl hK) fun hS => ?_
          refine xe (i := 3) kr rfl rfl ?_
          refine ap0o (c := evc) (fun _ => rfl) rfl hK underlying43 Ty.i32 rfl rfl rfl rfl hu om fun v1 A1 w ho1 hK => ?_
          refine xnk ((K.sl hK)) fun hS => ?_
          refine xe (i := 6) kr rfl rfl ?_
          replace hK : K e w G4 (A1 ++ ((b73, row [] 32) :: (b77, row (evc (kd, a, b, c)) 32) :: (b13, row [.int .i64 0, .slice none 0 0, .slice none 0 0, .slice none 0 0, .int .i64 0, .slice none 0 0, .slice none 0 0] 30) :: (b12, row (ec kd a b c) 32) :: (b11, row (wc Wd) 30) :: (b9, row (wc W2) 30) :: (b7, row (wc W) 30) :: L)) := hK
          replace hK : K _ _ _ ((b77, row (evc (kd, a, b, c)) 32) :: (A1 ++ ((b73, row [] 32) :: (b13, row [.int .i64 0, .slice none 0 0, .slice none 0 0, .slice none 0 0, .int .i64 0, .slice none 0 0, .slice none 0 0] 30) :: (b12, row (ec kd a b c) 32) :: (b11, row (wc Wd) 30) :: (b9, row (wc W2) 30) :: (b7, row (wc W) 30) :: L))) := hK.reo
          refine apE1x (c := evc) (k := (kd, a, b, c)) (fun _ => rfl) rfl hK underlying43 Ty.i32 rfl rfl rfl ho1 rfl om fun v2 A2 w ho2 hK => ?_
          refine xnk ((K.sl hK)) fun hS => ?_
          refine xe (i := 7) kr rfl rfl ?_
          refine cl call18 rfl (implWorldPlayO_c hE hv hpl2 ho2 hK) ?_
          rintro _ w ⟨G6, W6, rs6, rfl, hG6, hW6, hK⟩
          refine xnk ((K.vle (K.sl hK) hG6)) fun hS => ?_
          refine xt (i := 8) rfl kr rfl rfl (fun w hK => mv) hS <| xt (i := 9) rfl kr rfl rfl (fun w hK => (ext rfl rfl)) hS <| xt (i := 10) rfl kr rfl rfl (fun w hK => (ext rfl rfl)) hS <| ?_
          refine xe (i := 12) kr rfl rfl ?_
          refine soS hK Ty.i30 1 rfl rfl rfl rfl (WdS.one hW6) rfl ?_
          intro w hK
          refine xnk ((K.vle (K.sl hK) hG6)) fun hS => ?_
          refine xt (i := 13) rfl kr rfl rfl (fun w hK => (aB rfl)) hS <| xd kr <| ctn <| ?_
          replace hK : K e w G6 ((b73, row [] 32) :: (b13, row (wc W6) 30) :: (b12, row (ec kd a b c) 32) :: (b11, row (wc Wd) 30) :: (b9, row (wc W2) 30) :: (b7, row (wc W) 30) :: L) := hK
          exact ⟨(G6, b13, W6, rs6), ⟨rfl, rfl, rfl, rfl, trivial⟩, hG6, hW6, K.sl hK (by repeat' (first | exact List.Sublist.refl _ | refine List.Sublist.cons_cons _ ?_ | refine List.Sublist.cons _ ?_))⟩
       ·clear hK
        rintro ⟨G5, b13, W6, rs6⟩ g w ⟨hG5, hW6, hK⟩
        simp only at hG5 hW6 hK
        replace hW := hW.mono hG5
        refine thn <| sq <| ?_
        refine rgs (fun w => K e w G5 ((b13, row (wc W6) 30) :: (b12, row (ec kd a b c) 32) :: (b7, row (wc W) 30) :: L)) (fun w => K _ w _ _) [U,U,U,U,U,U,U,U,U] 9 Ty.mixed rfl rfl (hK.drawn _) ?_
        intro w hK
        have hS : (fun w => K e w G5 ((b13, row (wc W6) 30) :: (b12, row (ec kd a b c) 32) :: (b7, row (wc W) 30) :: L)) w := K.sl hK
        refine xt (i := 0) rfl kr rfl rfl (fun w hK => (mB rfl)) hS <| xt (i := 1) rfl kr rfl rfl (fun w hK => (mB rfl)) hS <| ?_
        refine xspl (t := 83) rfl (fun h5 => ?_) fun h5 => ?_
        ·refine xt (i := 2) rfl kr rfl rfl (fun w hK => (lsO hK Ty.a30 Ty.s30 0 rfl rfl rfl)) hS <| xt (i := 3) rfl kr rfl rfl (fun w hK => (lsO hK Ty.a30 Ty.s30 2 rfl rfl rfl)) hS <| xt (i := 4) rfl kr rfl rfl (fun w hK => (lsO hK Ty.a32 Ty.s32 1 rfl rfl rfl)) hS <| ?_
         refine xe (i := 5) kr rfl rfl ?_
         refine gy rfl <| ?_
         refine cl call10 rfl (implWorldDo_c (kd := kd) (a := a) (b := b) (c := c) (hE.mono hG5) hK hW (by have := hok.wda.zl; omega)) ?_
         rintro _ w ⟨G6, W7, q7, hG6, rfl, hW7, hK⟩
         rw [wdF_yes hok] at hW7
         refine xnk ((K.vle (K.sl hK) hG6)) fun hS => ?_
         refine xe (i := 6) kr rfl rfl ?_
         refine gy rfl <| ?_
         refine cl call12 rfl (sameWorld_c hK (hW6.mono hG6) hW7) ?_
         rintro _ w ⟨rfl, hK⟩
         refine xnk ((K.vle (K.sl hK) hG6)) fun hS => ?_
         refine xt (i := 7) rfl kr rfl rfl (fun w hK => (pk rfl)) hS <| xt (i := 8) rfl kr rfl rfl (fun w hK => (aB rfl)) hS <| xd kr <| thn <| rt <| p1r (a := .bool _) rfl <| ?_
         exact ⟨congrArg Value.bool (dec_t (by rw [hwd]; exact plE_snoc _ _ _)), _, _, hK, ((hG.trans hG4).trans hG5).trans hG6⟩
        ·cases h5
end
end Go.Proofs.YtmfolinemnlnbaaGreatDoor
