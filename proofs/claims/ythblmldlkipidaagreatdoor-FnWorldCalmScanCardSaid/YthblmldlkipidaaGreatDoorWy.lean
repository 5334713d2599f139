/- Plays are drawn; laws on plays and quiet periods: what they return. Conditions: those that each row states. -/
import Derived.Test.YthblmldlkipidaaGreatDoorCm
import Derived.Test.YthblmldlkipidaaGreatDoorPy
import Derived.Test.YthblmldlkipidaaGreatDoorWt
import Derived.Test.YthblmldlkipidaaGreatDoorBs
namespace Go.Proofs.YthblmldlkipidaaGreatDoor
open Go Go.Ro

section
variable {e w : World} {G : View} {L A : Own} {v u cva cvm : Value} {xs ys code more : List Int} {es : List Ev} {rs qs : List Rn} {W W' : Wv} {wd wd' : Wd} {a b c k kd id p : Int} {i j bk o rb : Nat} {a0 a1 : Addr}

set_option maxHeartbeats 2000000 in
theorem DrawWorldPlay_c (hK : K e w G L) (hc : BytS G cva code) :
  Ret Tryz.prog 17 #[cva] w (fun r w' => ∃ G' v u xs es, r = .tuple #[v, u] ∧ VLe G G' ∧ IntS G' v xs ∧ EvS G' u es ∧ es.length ≤ 81 ∧ K e w' G' L) := by
 refine enter2 (args := [cva]) Tryz.func17 rfl rfl rfl rfl ?_
 refine sq <| rg <| ?_
 refine vl asg <| vl asg <| nl <| thn <| sq <| rg <| vl mv <| ?_
 refine cl Tryz.call29 rfl (l6Open_c hK hc) ?_
 rintro _ w ⟨rb, cvb, code, rfl, hcode, hlen, hK⟩
 refine vl asg <| nl <| thn <| sq <| rg <| vl mv <| ?_
 refine cl Tryz.call51 rfl (l91Good_c hK hcode hlen om om om om) ?_
 rintro v w ⟨G1, xs, A, p1, hG1, ho, has, hl1, hl2, hp1, hp2, hK⟩
 obtain ⟨G2, hG2, hx, hK⟩ := K.pubO (K.mid (A := [_]) (B := A) hK) ho
 refine vl asg <| nl <| thn <| sq <| rg <| vl mv <| ?_
 refine cl Tryz.call52 rfl (specWorldNew_c hK hx) ?_
 rintro _ w ⟨G3, W, wd, rs, b, rfl, hG3, hW, hb, hwd, hK⟩
 have hbt : b = true := hb.2 ⟨⟨⟨by omega, by omega⟩, has⟩, by omega⟩
 subst hbt
 rw [if_pos rfl] at hwd
 have hok : WdOk wd := by rw [hwd]; exact newW_ok ⟨⟨by omega, by omega⟩, has⟩ (by omega)
 have hG := (hG1.trans hG2).trans hG3
 replace hcode := hcode.mono hG
 replace hx := hx.mono hG3
 clear hwd hb
 refine vl mv <| vl (ext rfl rfl) <| vl (ext rfl rfl) <| ?_
 refine al hK Ty.i30 rfl ?_
 intro b6 w hK
 refine soS hK Ty.i30 0 rfl rfl rfl rfl (WdS.one hW) rfl ?_
 intro w hK
 refine vl (aB rfl) <| nl <| thn <| sq <| sq <| rg <| vl mv <| ?_
 refine cl Tryz.call32 rfl (pickJ_c 1 hK rfl hcode hlen om om om) ?_
 rintro _ w ⟨⟨k22, rfl, hk22, hkn22⟩, hK⟩
 refine vl (eq rfl rfl) <| nl <| thn <| ?_
 refine ct (σ := View × Value × List Int × Int) (fun s => [(4, .pointer (some ⟨rb, 0, none⟩)), (5, s.2.1), (6, .pointer (some ⟨b6, 0, none⟩))]) (fun s w => VLe G3 s.1 ∧ IntS s.1 s.2.1 s.2.2.1 ∧ (0 ≤ s.2.2.2 ∧ s.2.2.2 ≤ 100) ∧ K e w s.1 ((b6, row (wc W) 30) :: (rb, row [cvb, .int .i64 s.2.2.2] 98) :: L)) ?_ ?_
 ·refine cdP rfl (fun c0 => ?_) (fun c0 => ?_)
  ·refine rg <| ?_
   refine vl mv <| ?_
   refine cl Tryz.call53 rfl (l91Nodes_c hK.swp hcode hlen om om) ?_
   rintro v2 w ⟨G4, ys, p2, hG4, hy, hl, r1, r2, hK⟩
   replace hK := hK.swp
   refine vl asg <| nl <| ctn <| ?_
   exact ⟨(G4, v2, ys, p2), ⟨rfl, rfl, rfl, trivial⟩, hG4, hy, ⟨by simp only; omega, by simp only; omega⟩, hK⟩
  ·refine sk <| ctn <| ?_
   exact ⟨(G3, v, xs, p1 + 1), ⟨rfl, rfl, rfl, trivial⟩, VLe.refl _, hx, ⟨by simp only; omega, by simp only; omega⟩, hK⟩
 ·clear hK hx
  rintro ⟨G4, v, xs, p⟩ g w ⟨hG4, hx, ⟨hp3, hp4⟩, hK⟩
  simp only at hG4 hx hp3 hp4 hK
  replace hcode := hcode.mono hG4
  replace hW := hW.mono hG4
  refine thn <| sq <| rg <| ?_
  refine bs0 hK Tryz.underlying43 Ty.i32 ?_
  intro b26 w hK
  refine vl asg <| nl <| thn <| sq <| rg <| vl mv <| ?_
  refine cl Tryz.call32 rfl (pickJ_c 2 hK rfl hcode hlen om om om) ?_
  rintro _ w ⟨⟨k28, rfl, hk28, hkn28⟩, hK⟩
  refine vl (aI rfl) <| nl <| thn <| sq <| sq <| rg <| vl mv <| ?_
  refine cl Tryz.call32 rfl (pickJ_c 2 hK rfl hcode hlen om om om) ?_
  rintro _ w ⟨⟨k30, rfl, hk30, hkn30⟩, hK⟩
  refine vl (eq rfl rfl) <| nl <| thn <| ?_
  refine ct (σ := Int × Int) (fun s => [(4, .pointer (some ⟨rb, 0, none⟩)), (5, v), (6, .pointer (some ⟨b6, 0, none⟩)), (8, .slice (some ⟨b26, 0, none⟩) 0 0), (9, .int .i64 s.1)]) (fun s w => (0 ≤ s.1 ∧ s.1 ≤ 81) ∧ (0 ≤ s.2 ∧ s.2 ≤ 200) ∧ K e w G4 ((b26, row [] 32) :: (b6, row (wc W) 30) :: (rb, row [cvb, .int .i64 s.2] 98) :: L)) ?_ ?_
  ·refine cdP rfl (fun c1 => ?_) (fun c1 => ?_)
   ·refine rg <| ?_
    refine vl mv <| ?_
    refine cl Tryz.call32 rfl (pickJ_c 2 hK rfl hcode hlen om om om) ?_
    rintro _ w ⟨⟨k33, rfl, hk33, hkn33⟩, hK⟩
    refine vl (ad rfl rfl) <| vl (aI rfl) <| nl <| ctn <| ?_
    exact ⟨(_, _), ⟨rfl, rfl, rfl, rfl, rfl, trivial⟩, ⟨by simp only; omega, by simp only; omega⟩, ⟨by simp only; omega, by simp only; omega⟩, hK⟩
   ·refine sk <| ctn <| ?_
    exact ⟨(_, _), ⟨rfl, rfl, rfl, rfl, rfl, trivial⟩, ⟨by simp only; omega, by simp only; omega⟩, ⟨by simp only; omega, by simp only; omega⟩, hK⟩
  ·clear hK
   rintro ⟨n, q⟩ g w ⟨⟨hn0, hn1⟩, ⟨q0, q1⟩, hK⟩
   simp only at hn0 hn1 q0 q1 hK
   replace hK : K _ _ _ ((b6, row (wc W) 30) :: (rb, row [cvb, .int .i64 q] 98) :: ([(b26, row [] 32)] ++ L)) := hK.reo
   refine thn <| sq <| sq <| rg <| ?_
   refine vl (aI rfl) <| nl <| thn <| bk <| ?_
   refine lp (σ := Nat × View × Wv × Wd × List Rn × Int × List Ev × Value × Own) (fun s => [(4, .pointer (some ⟨rb, 0, none⟩)), (5, v), (6, .pointer (some ⟨b6, 0, none⟩)), (8, s.2.2.2.2.2.2.2.1), (9, .int .i64 n), (10, .int .i64 (s.1 : Int))]) (fun s w => (s.1 : Int) ≤ n ∧ VLe G4 s.2.1 ∧ WdS s.2.1 lc s.2.2.1 s.2.2.2.1 s.2.2.2.2.1 ∧ WdOk s.2.2.2.1 ∧ (0 ≤ s.2.2.2.2.2.1 ∧ s.2.2.2.2.2.1 ≤ 200 + 41 * s.1) ∧ s.2.2.2.2.2.2.1.length = s.1 ∧ OS 4 32 s.2.2.2.2.2.2.2.1 s.2.2.2.2.2.2.1.length (s.2.2.2.2.2.2.1.flatMap evc) s.2.2.2.2.2.2.2.2 ∧ K e w s.2.1 ((b6, row (wc s.2.2.1) 30) :: (rb, row [cvb, .int .i64 s.2.2.2.2.2.1] 98) :: (s.2.2.2.2.2.2.2.2 ++ L))) (fun s => n.toNat - s.1) (0, G4, W, wd, rs, q, [], .slice (some ⟨b26, 0, none⟩) 0 0, [(b26, row [] 32)]) ⟨rfl, rfl, rfl, rfl, rfl, rfl, trivial⟩ ⟨hn0, VLe.refl _, hW, hok, ⟨q0, by simp only; omega⟩, rfl, OS.none, hK⟩ ?_
   clear hW hok hK
   rintro ⟨i, G5, W, wd, rs, q, es, u, A⟩ g w ⟨hi, hG5, hW, hok, ⟨q2, q3⟩, hes, ho, hK⟩
   simp only at hi hG5 hW hok q2 q3 hes ho hK
   replace hcode := hcode.mono hG5
   refine sq <| sq <| rg <| ?_
   refine vl (mI rfl) <| vl (mI rfl) <| vl (lt rfl rfl) <| nl <| thn <| ?_
   refine cdP rfl (fun hc => ?_) (fun hc => ?_)
   ·have hc' : (i : Int) < n := hc
    refine sk <| thn <| sq <| bk <| sq <| rg <| ?_
    refine vl mv <| vl (lsO hK Ty.a30 Ty.s30 0 rfl rfl rfl) <| ?_
    refine cl Tryz.call31 rfl (l92EventJ_c (rb := rb) 1 hK rfl hcode hlen om om hW hok) ?_
    rintro _ w ⟨kd, a, b, c, p2, rfl, r1, r2, hK⟩
    refine al hK Ty.i32 rfl ?_
    intro b11 w hK
    refine soS hK Ty.i32 0 rfl rfl rfl rfl rfl rfl ?_
    intro w hK
    refine nl <| thn <| sq <| ?_
    replace hK : K e w G5 ((b11, row (evc (kd, a, b, c)) 32) :: (b6, row (wc W) 30) :: (rb, row [cvb, .int .i64 p2] 98) :: (A ++ L)) := hK
    refine rg <| ?_
    refine vl mv <| vl (lsO hK Ty.a32 Ty.s32 0 rfl rfl rfl) <| ?_
    refine bsS1 hK Tryz.underlying43 Ty.i32 rfl rfl rfl rfl rfl rfl ?_
    intro b45 w hK
    replace hK : K e w G5 ((b45, row (evc (kd, a, b, c)) 32) :: (b11, row (evc (kd, a, b, c)) 32) :: (b6, row (wc W) 30) :: (rb, row [cvb, .int .i64 p2] 98) :: (A ++ L)) := hK
    replace hK : K _ _ _ ((b45, row (evc (kd, a, b, c)) 32) :: (A ++ ((b11, row (evc (kd, a, b, c)) 32) :: (b6, row (wc W) 30) :: (rb, row [cvb, .int .i64 p2] 98) :: L))) := hK.reo
    refine apE1 (c := evc) (k := (kd, a, b, c)) (fun _ => rfl) rfl hK Tryz.underlying43 Ty.i32 rfl rfl rfl ho rfl om fun v' A' w ho hK => ?_
    replace hK : K _ _ _ ((b11, row (evc (kd, a, b, c)) 32) :: (b6, row (wc W) 30) :: (rb, row [cvb, .int .i64 p2] 98) :: (A' ++ L)) := hK.reo
    refine vl asg <| nl <| thn <| rg <| vl (lsO hK Ty.a30 Ty.s30 1 rfl rfl rfl) <| vl (lsO hK Ty.a32 Ty.s32 0 rfl rfl rfl) <| ?_
    refine cl Tryz.call37 rfl (l51Do_c (kd := kd) (a := a) (b := b) (c := c) hK hW hok.wda) ?_
    rintro _ w ⟨G6, W2, rs2, hG6, rfl, hW2, hK⟩
    refine soS hK Ty.i30 1 rfl rfl rfl rfl (WdS.one hW2) rfl ?_
    intro w hK
    refine nl <| bkn <| thn <| rg <| vl (mI rfl) <| vl (ad rfl rfl) <| vl (aI rfl) <| nl <| thn <| ?_
    exact ⟨(i + 1, G6, W2, _, rs2, p2, es ++ [(kd, a, b, c)], v', A'), ⟨rfl, rfl, rfl, rfl, rfl, rfl, trivial⟩, ⟨by simp only; omega, hG5.trans hG6, hW2, doW_ok hok kd a b c, ⟨by simp only; omega, by simp only; omega⟩, by simp [hes], ho, hK.drop1⟩, by simp only; omega⟩
   ·have hc' : ¬ (i : Int) < n := hc
    refine ex <| the <| the <| bkh <| thn <| sq <| rg <| ?_
    refine vl mv <| vl mv <| vl asg <| vl asg <| nl <| thn <| rt <| p2r (a := _) (b := _) rfl rfl <| ?_
    obtain ⟨G6, hG6, hu, hK⟩ := K.pubE (c := evc) (fun _ => rfl) (K.drop1 (K.drop1 hK)) ho
    exact ⟨G6, v, u, xs, es, rfl, ((hG.trans hG4).trans hG5).trans hG6, hx.mono (hG5.trans hG6), hu, by omega, hK⟩

set_option maxRecDepth 20000 in
set_option maxHeartbeats 8000000 in
theorem FnWorldMissed_c (hK : K e w G L) (hE : ErrS 216 G a0 a1) (hc : BytS G cva code) : Ret Tryz.prog 4 #[cva] w (fun r w' => r = .bool true ∧ ∃ G' L', K e w' G' L' ∧ VLe G G') := by
 refine enter1 (args := [cva]) Tryz.func4 rfl rfl rfl rfl ?_
 refine sq <| rg <| ?_
 refine vl (aB rfl) <| nl <| thn <| sq <| sq <| rg <| vl mv <| vl (ln Tryz.underlying22 rfl hc.len) <| vl (gt rfl rfl) <| nl <| thn <| ?_
 refine cdP rfl (fun hbig => ?_) (fun hbig => ?_)
 ·refine sq <| rg <| ?_
  refine vl (aB rfl) <| nl <| thn <| rt <| thr <| p1r (a := .bool _) rfl <| ?_
  exact ⟨rfl, _, _, hK, VLe.refl _⟩
 ·refine sk <| thn <| sq <| rg <| ?_
  refine vl mv <| ?_
  refine cl Tryz.call17 rfl (DrawWorldPlay_c hK hc) ?_
  rintro _ w ⟨G1, v, u, xs, es, rfl, hG1, hv, hu, hel, hK⟩
  refine vl mv <| vl (ext rfl rfl) <| vl (ext rfl rfl) <| vl asg <| vl asg <| nl <| thn <| sq <| rg <| vl mv <| vl mv <| ?_
  refine cl Tryz.call18 rfl (implWorldPlay_c (hE.mono hG1) hK hv hu) ?_
  rintro _ w ⟨G2, W, wd, rs, bb, rfl, hG2, hW, hb, hwd, hK⟩
  refine vl mv <| vl (ext rfl rfl) <| vl (ext rfl rfl) <| ?_
  refine al hK Ty.i30 rfl ?_
  intro b5 w hK
  refine soS hK Ty.i30 0 rfl rfl rfl rfl (WdS.one hW) rfl ?_
  intro w hK
  refine vl (aB rfl) <| nl <| thn <| sq <| rg <| vl mv <| vl mv <| ?_
  refine cl Tryz.call19 rfl (specWorldPlay_c hK (hv.mono hG2) (EF.mono hu hG2)) ?_
  rintro _ w ⟨G3, W2, wd2, rs2, bb2, rfl, hG3, hW2, hb2, hwd2, hK⟩
  obtain rfl : bb2 = bb := Bool.eq_iff_iff.2 (hb2.trans hb.symm)
  obtain rfl : wd2 = wd := hwd2.trans hwd.symm
  clear hb2 hwd2
  have hG := (hG1.trans hG2).trans hG3
  replace hE := hE.mono hG
  replace hW := hW.mono hG3
  replace hv := hv.mono (hG2.trans hG3)
  replace hu := EF.mono hu (hG2.trans hG3)
  have hlen := hel
  refine vl mv <| vl (ext rfl rfl) <| vl (ext rfl rfl) <| ?_
  refine al hK Ty.i30 rfl ?_
  intro b7 w hK
  refine soS hK Ty.i30 0 rfl rfl rfl rfl (WdS.one hW2) rfl ?_
  intro w hK
  refine vl (aB rfl) <| nl <| thn <| sq <| sq <| rg <| vl (mB rfl) <| vl (mB rfl) <| vl (neB Tryz.underlying4 rfl rfl) <| vl (mB rfl) <| ?_
  refine spl (t := 33) rfl (fun h1 => ?_) (fun h1 => ?_)
  ·simp at h1
  ·refine gy rfl <| vl (lsO hK Ty.a30 Ty.s30 1 rfl rfl rfl) <| gy rfl <| vl (lsO hK Ty.a30 Ty.s30 0 rfl rfl rfl) <| gy rfl <| ?_
   refine cl Tryz.call12 rfl (sameWorld_c hK hW hW2) ?_
   rintro _ w ⟨rfl, hK⟩
   refine gy rfl <| vl (ntB rfl) <| vl (pk rfl) <| vl (mB rfl) <| ?_
   refine spl (t := 39) rfl (fun h2 => ?_) (fun h2 => ?_)
   ·exact absurd rfl (not_dec (Eq.mp (Bool.not_eq_true' _) h2))
   ·refine gy rfl <| vl (mB rfl) <| gy rfl <| vl (ntB rfl) <| vl (pk rfl) <| nl <| thn <| ?_
    refine cdB rfl (fun h3 => ?_) (fun h3 => ?_)
    ·refine sq <| rg <| ?_
     refine vl (mB rfl) <| vl (mB rfl) <| vl (eqB Tryz.underlying4 rfl rfl) <| vl (mB rfl) <| ?_
     refine spl (t := 46) rfl (fun h7 => ?_) (fun h7 => ?_)
     ·refine gy rfl <| vl (lsO hK Ty.a30 Ty.s30 1 rfl rfl rfl) <| gy rfl <| vl (lsO hK Ty.a30 Ty.s30 0 rfl rfl rfl) <| gy rfl <| ?_
      refine cl Tryz.call12 rfl (sameWorld_c hK hW hW2) ?_
      rintro _ w ⟨rfl, hK⟩
      refine vl (pk rfl) <| vl (aB rfl) <| nl <| thn <| rt <| thr <| p1r (a := .bool _) rfl <| ?_
      exact ⟨congrArg Value.bool (dec_t rfl), _, _, hK, hG⟩
     ·simp at h7
    ·obtain rfl : bb2 = true := by simpa using h3
     have hpl := hb.1 rfl
     rw [if_pos rfl] at hwd
     have hok : WdOk wd2 := by rw [hwd]; exact plF_ok hpl
     have hnx := hW.next
     have hle := hW.since.le
     refine sk <| thn <| sq <| sq <| rg <| ?_
     refine vl (aI rfl) <| nl <| thn <| bk <| ?_
     refine lp (σ := Nat) (fun i => [(5, .pointer (some ⟨b5, 0, none⟩)), (9, .int .i64 (i : Int))]) (fun i w => i ≤ wd2.since.length ∧ K e w G3 ((b7, row (wc W2) 30) :: (b5, row (wc W) 30) :: L)) (fun i => wd2.since.length - i) 0 ⟨rfl, rfl, trivial⟩ ⟨Nat.zero_le _, hK⟩ ?_
     rintro i g w ⟨hi, hK⟩
     refine sq <| sq <| rg <| ?_
     refine vl (mI rfl) <| vl (fa Tryz.underlying30 rfl Ty.z26 rfl) <| vl (ldO hK Ty.o26 1 rfl rfl rfl) <| vl (ln Tryz.underlying26 rfl hW.since.len) <| vl (lt rfl rfl) <| nl <| thn <| ?_
     refine cdP rfl (fun hc => ?_) (fun hc => ?_)
     ·have hi' : i < wd2.since.length := by omega
      have hm := List.getElem_mem hi'
      have hlaw := missed_law hok hm
      refine sk <| thn <| sq <| bk <| sq <| ?_
      refine rgs (fun w => K e w G3 ((b5, row (wc W) 30) :: L)) (fun w => K _ w _ _) [U,U,U,U,U,U,U,U,U,U,U,U,U,U,U,U,U,U,U,U,U,U,U,U,U,U] 26 Ty.mixed rfl rfl (hK.drawn _) ?_
      intro w hK
      have hS : (fun w => K e w G3 ((b5, row (wc W) 30) :: L)) w := K.sl hK
      refine xt (i := 0) rfl kr rfl rfl (fun w hK => (fa Tryz.underlying30 rfl Ty.z28 rfl)) hS <| ?_; refine xt (i := 1) rfl kr rfl rfl (fun w hK => (lsP (u := [.int .i64 W.next, W.t]) hK Ty.a28 Ty.s28 0 rfl rfl rfl rfl)) hS <| ?_
      refine xe (i := 2) kr rfl rfl ?_
      refine cl Tryz.call20 rfl (implScanDone_c hK hW.told) ?_
      rintro _ w ⟨rfl, hK⟩
      refine xnk (K.sl hK) fun hS => ?_
      refine xt (i := 3) rfl kr rfl rfl (fun w hK => (mB rfl)) hS <| ?_
      refine xspl (t := 61) rfl (fun h61 => ?_) (fun h61 => ?_)
      ·skip
       refine xu (i := 4) rfl kr rfl rfl hS <| xu (i := 5) rfl kr rfl rfl hS <| xu (i := 6) rfl kr rfl rfl hS <| xu (i := 7) rfl kr rfl rfl hS <| xu (i := 8) rfl kr rfl rfl hS <| xu (i := 9) rfl kr rfl rfl hS <| xu (i := 10) rfl kr rfl rfl hS <| xu (i := 11) rfl kr rfl rfl hS <| xu (i := 12) rfl kr rfl rfl hS <| xt (i := 13) rfl kr rfl rfl (fun w hK => (pk rfl)) hS <| ?_; refine xt (i := 14) rfl kr rfl rfl (fun w hK => (mB rfl)) hS <| ?_; refine xt (i := 15) rfl kr rfl rfl (fun w hK => (fa Tryz.underlying30 rfl Ty.z28 rfl)) hS <| ?_; refine xt (i := 16) rfl kr rfl rfl (fun w hK => (fa Tryz.underlying28 rfl Ty.z26 rfl)) hS <| ?_; refine xt (i := 17) rfl kr rfl rfl (fun w hK => (ldO hK Ty.o26 0 rfl rfl rfl)) hS <| ?_; refine xt (i := 18) rfl kr rfl rfl (fun w hK => (fa Tryz.underlying30 rfl Ty.z26 rfl)) hS <| ?_; refine xt (i := 19) rfl kr rfl rfl (fun w hK => (ldO hK Ty.o26 0 rfl rfl rfl)) hS <| ?_; refine xt (i := 20) rfl kr rfl rfl (fun w hK => (mI rfl)) hS <| ?_; refine xt (i := 21) rfl kr rfl rfl (fun w hK => (ixm1 (m := i) Tryz.underlying26 Ty.s3 rfl hW.since.1 rfl om om)) hS <| ?_; refine xt (i := 22) rfl kr rfl rfl (fun w hK => (ldV hK Ty.o3 rfl (by exact hW.since.at om))) hS <| ?_
       refine xe (i := 23) kr rfl rfl ?_
       refine gy rfl <| ?_
       refine cl Tryz.call21 rfl (hasInt_c hK hW.told) ?_
       rintro _ w ⟨rfl, hK⟩
       refine xnk (K.sl hK) fun hS => ?_
       refine xt (i := 24) rfl kr rfl rfl (fun w hK => (nt rfl)) hS <| ?_; refine xt (i := 25) rfl kr rfl rfl (fun w hK => (pk rfl)) hS <| ?_; refine xd kr <| thn <| ?_
       refine cdP rfl (fun hc => ?_) (fun hc => ?_)
       ·skip
        refine sq <| rg <| ?_
        refine vl (aB rfl) <| nl <| thn <| rt <| bkr <| thr <| thr <| bkr <| thr <| p1r (a := .bool _) rfl <| ?_
        first | exact absurd (hlaw (.inl (hnx.symm.trans (of_dec h61).2))) hc | exact absurd (hlaw (.inr om)) hc
       ·skip
        refine sk <| bkn <| thn <| rg <| ?_
        refine vl (mI rfl) <| vl (ad rfl rfl) <| vl (aI rfl) <| nl <| thn <| ?_
        exact ⟨i + 1, ⟨rfl, rfl, trivial⟩, ⟨by omega, hK⟩, by omega⟩
      ·skip
       refine xt (i := 4) rfl kr rfl rfl (fun w hK => (fa Tryz.underlying30 rfl Ty.z26 rfl)) hS <| ?_; refine xt (i := 5) rfl kr rfl rfl (fun w hK => (ldO hK Ty.o26 0 rfl rfl rfl)) hS <| ?_; refine xt (i := 6) rfl kr rfl rfl (fun w hK => (mI rfl)) hS <| ?_; refine xt (i := 7) rfl kr rfl rfl (fun w hK => (ixm1 (m := i) Tryz.underlying26 Ty.s3 rfl hW.since.1 rfl om om)) hS <| ?_; refine xt (i := 8) rfl kr rfl rfl (fun w hK => (ldV hK Ty.o3 rfl (by exact hW.since.at om))) hS <| ?_; refine xt (i := 9) rfl kr rfl rfl (fun w hK => (fa Tryz.underlying30 rfl Ty.z28 rfl)) hS <| ?_; refine xt (i := 10) rfl kr rfl rfl (fun w hK => (fa Tryz.underlying28 rfl Ty.z3 rfl)) hS <| ?_; refine xt (i := 11) rfl kr rfl rfl (fun w hK => (ldO hK Ty.o3 0 rfl rfl rfl)) hS <| ?_; refine xt (i := 12) rfl kr rfl rfl (fun w hK => (lt rfl rfl)) hS <| ?_; refine xt (i := 13) rfl kr rfl rfl (fun w hK => (pk rfl)) hS <| ?_; refine xt (i := 14) rfl kr rfl rfl (fun w hK => (mB rfl)) hS <| ?_
       refine xsplP (t := 72) rfl (fun h72 => ?_) (fun h72 => ?_)
       ·skip
        refine xt (i := 15) rfl kr rfl rfl (fun w hK => (fa Tryz.underlying30 rfl Ty.z28 rfl)) hS <| ?_; refine xt (i := 16) rfl kr rfl rfl (fun w hK => (fa Tryz.underlying28 rfl Ty.z26 rfl)) hS <| ?_; refine xt (i := 17) rfl kr rfl rfl (fun w hK => (ldO hK Ty.o26 0 rfl rfl rfl)) hS <| ?_; refine xt (i := 18) rfl kr rfl rfl (fun w hK => (fa Tryz.underlying30 rfl Ty.z26 rfl)) hS <| ?_; refine xt (i := 19) rfl kr rfl rfl (fun w hK => (ldO hK Ty.o26 0 rfl rfl rfl)) hS <| ?_; refine xt (i := 20) rfl kr rfl rfl (fun w hK => (mI rfl)) hS <| ?_; refine xt (i := 21) rfl kr rfl rfl (fun w hK => (ixm1 (m := i) Tryz.underlying26 Ty.s3 rfl hW.since.1 rfl om om)) hS <| ?_; refine xt (i := 22) rfl kr rfl rfl (fun w hK => (ldV hK Ty.o3 rfl (by exact hW.since.at om))) hS <| ?_
        refine xe (i := 23) kr rfl rfl ?_
        refine gy rfl <| ?_
        refine cl Tryz.call21 rfl (hasInt_c hK hW.told) ?_
        rintro _ w ⟨rfl, hK⟩
        refine xnk (K.sl hK) fun hS => ?_
        refine xt (i := 24) rfl kr rfl rfl (fun w hK => (nt rfl)) hS <| ?_; refine xt (i := 25) rfl kr rfl rfl (fun w hK => (pk rfl)) hS <| ?_; refine xd kr <| thn <| ?_
        refine cdP rfl (fun hc => ?_) (fun hc => ?_)
        ·skip
         refine sq <| rg <| ?_
         refine vl (aB rfl) <| nl <| thn <| rt <| bkr <| thr <| thr <| bkr <| thr <| p1r (a := .bool _) rfl <| ?_
         first | exact absurd (hlaw (.inl (hnx.symm.trans (of_dec h61).2))) hc | exact absurd (hlaw (.inr om)) hc
        ·skip
         refine sk <| bkn <| thn <| rg <| ?_
         refine vl (mI rfl) <| vl (ad rfl rfl) <| vl (aI rfl) <| nl <| thn <| ?_
         exact ⟨i + 1, ⟨rfl, rfl, trivial⟩, ⟨by omega, hK⟩, by omega⟩
       ·skip
        refine xu (i := 15) rfl kr rfl rfl hS <| xu (i := 16) rfl kr rfl rfl hS <| xu (i := 17) rfl kr rfl rfl hS <| xu (i := 18) rfl kr rfl rfl hS <| xu (i := 19) rfl kr rfl rfl hS <| xu (i := 20) rfl kr rfl rfl hS <| xu (i := 21) rfl kr rfl rfl hS <| xu (i := 22) rfl kr rfl rfl hS <| xu (i := 23) rfl kr rfl rfl hS <| xu (i := 24) rfl kr rfl rfl hS <| xt (i := 25) rfl kr rfl rfl (fun w hK => (pk rfl)) hS <| ?_; refine xd kr <| thn <| ?_
        refine cdf rfl ?_
        refine sk <| bkn <| thn <| rg <| ?_
        refine vl (mI rfl) <| vl (ad rfl rfl) <| vl (aI rfl) <| nl <| thn <| ?_
        exact ⟨i + 1, ⟨rfl, rfl, trivial⟩, ⟨by omega, hK⟩, by omega⟩
     ·refine ex <| the <| the <| bkh <| thn <| sq <| rg <| ?_
      refine vl (aB rfl) <| nl <| thn <| rt <| p1r (a := .bool _) rfl <| ?_
      exact ⟨rfl, _, _, hK, hG⟩

theorem implRingIds_c (hK : K e w G L) (hv : RngS G v rs) (hok : RgOk (rgl rs)) : Ret Tryz.prog 26 #[v] w (fun r w' => ∃ G', VLe G G' ∧ IntS G' r (ids (rgl rs)) ∧ K e w' G' L) := by
 have hlen : rs.length ≤ 10 := by rw [← rg_len]; exact hok.1
 refine enter1 (args := [v]) Tryz.func26 rfl rfl rfl rfl ?_
 refine sq <| rg <| ?_
 refine vl asg <| nl <| thn <| sq <| sq <| rg <| vl mv <| ?_
 refine cl Tryz.call67 rfl (implRingValid_c hK hv) ?_
 rintro _ w ⟨rfl, hK⟩
 refine vl (ntB rfl) <| nl <| thn <| ?_
 refine cdB rfl (fun h1 => ?_) (fun h1 => ?_)
 ·exact absurd hok (not_dec (Eq.mp (Bool.not_eq_true' _) h1))
 ·refine sk <| thn <| sq <| rg <| ?_
  refine vl mv <| ?_
  refine cl Tryz.call68 rfl (idsOf_c hK hv om) ?_
  rintro u w ⟨A, ho, hK⟩
  rw [show ints (rs.map (·.1)) = ints (ids (rgl rs)) by rw [ids_rg], show rs.length = (ids (rgl rs)).length by rw [ids_rg, List.length_map]] at ho
  obtain ⟨G2, hG2, hu, hK⟩ := K.pubO hK ho
  refine vl asg <| nl <| thn <| rt <| p1r (a := _) rfl <| ?_
  exact ⟨G2, hG2, hu, hK⟩

set_option maxRecDepth 20000 in
set_option maxHeartbeats 8000000 in
theorem FnWorldCalm_c (hK : K e w G L) (hE : ErrS 216 G a0 a1) (hc : BytS G cva code) : Ret Tryz.prog 8 #[cva] w (fun r w' => r = .bool true ∧ ∃ G' L', K e w' G' L' ∧ VLe G G') := by
 refine enter1 (args := [cva]) Tryz.func8 rfl rfl rfl rfl ?_
 refine sq <| rg <| ?_
 refine vl (aB rfl) <| nl <| thn <| sq <| sq <| rg <| vl mv <| vl (ln Tryz.underlying22 rfl hc.len) <| vl (gt rfl rfl) <| nl <| thn <| ?_
 refine cdP rfl (fun hbig => ?_) (fun hbig => ?_)
 ·refine sq <| rg <| ?_
  refine vl (aB rfl) <| nl <| thn <| rt <| thr <| p1r (a := .bool _) rfl <| ?_
  exact ⟨rfl, _, _, hK, VLe.refl _⟩
 ·refine sk <| thn <| sq <| rg <| ?_
  refine vl mv <| ?_
  refine cl Tryz.call17 rfl (DrawWorldPlay_c hK hc) ?_
  rintro _ w ⟨G1, v, u, xs, es, rfl, hG1, hv, hu, hel, hK⟩
  refine vl mv <| vl (ext rfl rfl) <| vl (ext rfl rfl) <| vl asg <| vl asg <| nl <| thn <| sq <| rg <| vl mv <| vl mv <| ?_
  refine cl Tryz.call18 rfl (implWorldPlay_c (hE.mono hG1) hK hv hu) ?_
  rintro _ w ⟨G2, W, wd, rs, bb, rfl, hG2, hW, hb, hwd, hK⟩
  refine vl mv <| vl (ext rfl rfl) <| vl (ext rfl rfl) <| ?_
  refine al hK Ty.i30 rfl ?_
  intro b5 w hK
  refine soS hK Ty.i30 0 rfl rfl rfl rfl (WdS.one hW) rfl ?_
  intro w hK
  refine vl (aB rfl) <| nl <| thn <| sq <| rg <| vl mv <| vl mv <| ?_
  refine cl Tryz.call19 rfl (specWorldPlay_c hK (hv.mono hG2) (EF.mono hu hG2)) ?_
  rintro _ w ⟨G3, W2, wd2, rs2, bb2, rfl, hG3, hW2, hb2, hwd2, hK⟩
  obtain rfl : bb2 = bb := Bool.eq_iff_iff.2 (hb2.trans hb.symm)
  obtain rfl : wd2 = wd := hwd2.trans hwd.symm
  clear hb2 hwd2
  have hG := (hG1.trans hG2).trans hG3
  replace hE := hE.mono hG
  replace hW := hW.mono hG3
  replace hv := hv.mono (hG2.trans hG3)
  replace hu := EF.mono hu (hG2.trans hG3)
  have hlen := hel
  refine vl mv <| vl (ext rfl rfl) <| vl (ext rfl rfl) <| ?_
  refine al hK Ty.i30 rfl ?_
  intro b7 w hK
  refine soS hK Ty.i30 0 rfl rfl rfl rfl (WdS.one hW2) rfl ?_
  intro w hK
  refine vl (aB rfl) <| nl <| thn <| sq <| sq <| rg <| vl (mB rfl) <| vl (mB rfl) <| vl (neB Tryz.underlying4 rfl rfl) <| vl (mB rfl) <| ?_
  refine spl (t := 35) rfl (fun h1 => ?_) (fun h1 => ?_)
  ·simp at h1
  ·refine gy rfl <| vl (lsO hK Ty.a30 Ty.s30 1 rfl rfl rfl) <| gy rfl <| vl (lsO hK Ty.a30 Ty.s30 0 rfl rfl rfl) <| gy rfl <| ?_
   refine cl Tryz.call12 rfl (sameWorld_c hK hW hW2) ?_
   rintro _ w ⟨rfl, hK⟩
   refine gy rfl <| vl (ntB rfl) <| vl (pk rfl) <| vl (mB rfl) <| ?_
   refine spl (t := 41) rfl (fun h2 => ?_) (fun h2 => ?_)
   ·exact absurd rfl (not_dec (Eq.mp (Bool.not_eq_true' _) h2))
   ·refine gy rfl <| vl (mB rfl) <| gy rfl <| vl (ntB rfl) <| vl (pk rfl) <| nl <| thn <| ?_
    refine cdB rfl (fun h3 => ?_) (fun h3 => ?_)
    ·refine sq <| rg <| ?_
     refine vl (mB rfl) <| vl (mB rfl) <| vl (eqB Tryz.underlying4 rfl rfl) <| vl (mB rfl) <| ?_
     refine spl (t := 48) rfl (fun h7 => ?_) (fun h7 => ?_)
     ·refine gy rfl <| vl (lsO hK Ty.a30 Ty.s30 1 rfl rfl rfl) <| gy rfl <| vl (lsO hK Ty.a30 Ty.s30 0 rfl rfl rfl) <| gy rfl <| ?_
      refine cl Tryz.call12 rfl (sameWorld_c hK hW hW2) ?_
      rintro _ w ⟨rfl, hK⟩
      refine vl (pk rfl) <| vl (aB rfl) <| nl <| thn <| rt <| thr <| p1r (a := .bool _) rfl <| ?_
      exact ⟨congrArg Value.bool (dec_t rfl), _, _, hK, hG⟩
     ·simp at h7
    ·obtain rfl : bb2 = true := by simpa using h3
     have hpl := hb.1 rfl
     rw [if_pos rfl] at hwd
     have hok : WdOk wd2 := by rw [hwd]; exact plF_ok hpl
     have hil : wd2.items.length ≤ 1000000 := by have := hok.wda.zl; omega
     have hcok := calW_ok hok
     have hr0 : RgOk (rgl rs) := by rw [hW.rg]; exact hok.2.1.1
     refine sk <| thn <| sq <| rg <| ?_
     refine vl (lsO hK Ty.a30 Ty.s30 1 rfl rfl rfl) <| ?_
     refine cl Tryz.call24 rfl (implWorldCalm_c hK hW hil) ?_
     rintro _ w ⟨G4, Wc, q4, hG4, rfl, hWc, hK⟩
     rw [calF_yes hok] at hWc
     have hW := hW.mono hG4
     have hr1 : rgl q4 = idl (ids wd2.ring) := hWc.rg
     have hr2 : RgOk (rgl q4) := by rw [hr1]; exact hcok.2.1.1
     refine al hK Ty.i30 rfl ?_
     intro b9 w hK
     refine soS hK Ty.i30 0 rfl rfl rfl rfl (WdS.one hWc) rfl ?_
     intro w hK
     refine nl <| thn <| sq <| rg <| vl (fa Tryz.underlying30 rfl Ty.z23 rfl) <| vl (ldO hK Ty.o23 0 rfl rfl rfl) <| ?_
     refine cl Tryz.call26 rfl (implRingIds_c hK hWc.ring hr2) ?_
     rintro u2 w ⟨G5, hG5, hu2, hK⟩
     rw [hr1, ids_idl] at hu2
     have hWc := hWc.mono hG5
     have hW := hW.mono hG5
     have hG' := (hG.trans hG4).trans hG5
     refine vl asg <| nl <| thn <| sq <| sq <| rg <| vl (aI rfl) <| nl <| thn <| bk <| ?_
     refine lp (σ := Nat × View) (fun s => [(5, .pointer (some ⟨b5, 0, none⟩)), (9, .pointer (some ⟨b9, 0, none⟩)), (10, u2), (11, .int .i64 (s.1 : Int))]) (fun s w => s.1 ≤ 64 ∧ VLe G5 s.2 ∧ K e w s.2 ((b9, row (wc Wc) 30) :: (b7, row (wc W2) 30) :: (b5, row (wc W) 30) :: L)) (fun s => 64 - s.1) (0, G5) ⟨rfl, rfl, rfl, rfl, trivial⟩ ⟨Nat.zero_le _, VLe.refl _, hK⟩ ?_
     clear hK
     rintro ⟨n, G6⟩ g w ⟨hn, hG6, hK⟩
     simp only at hn hG6 hK
     have hWc := hWc.mono hG6
     have hW := hW.mono hG6
     have hu2 := hu2.mono hG6
     refine sq <| sq <| rg <| ?_
     refine vl (mI rfl) <| vl (lt rfl rfl) <| nl <| thn <| ?_
     refine cdP rfl (fun hx => ?_) (fun hx => ?_)
     ·have hx' : n < 64 := by simp only at hx; omega
      have hpt : Pt (n : Int) := by unfold Pt; omega
      refine sk <| thn <| sq <| bk <| sq <| rg <| ?_
      refine vl (lsO hK Ty.a30 Ty.s30 0 rfl rfl rfl) <| vl (mI rfl) <| ?_
      refine cl Tryz.call14 rfl (WorldOwner_c hK hWc (by show wd2.items.length ≤ _; omega)) ?_
      rintro _ w ⟨⟨m1, rfl, _, hm1, _⟩, G7, hG7, hK⟩
      have hm1' := hm1 hcok hpt
      rw [own_cal hok] at hm1'
      refine vl mv <| vl (mI rfl) <| ?_
      refine cl Tryz.call27 rfl (NodesNext_c hK (hu2.mono hG7)) ?_
      rintro _ w ⟨⟨m2, rfl, hm2⟩, hK⟩
      have hm2' := hm2 (nds_ids hok.2.1) hpt
      refine vl (ne rfl rfl) <| nl <| thn <| ?_
      refine cdP rfl (fun hy => ?_) (fun hy => ?_)
      ·exact absurd (hm1'.trans hm2'.symm) hy
      ·refine sk <| bkn <| thn <| rg <| ?_
       refine vl (mI rfl) <| vl (ad rfl rfl) <| vl (aI rfl) <| nl <| thn <| ?_
       exact ⟨(n + 1, G7), ⟨rfl, rfl, rfl, rfl, trivial⟩, ⟨hx', hG6.trans hG7, hK⟩, by simp only; omega⟩
     ·refine ex <| the <| the <| bkh <| thn <| sq <| rg <| ?_
      refine vl (fa Tryz.underlying30 rfl Ty.z23 rfl) <| vl (ldO hK Ty.o23 0 rfl rfl rfl) <| ?_
      refine cl Tryz.call28 rfl (implRingIdeal_c hK hWc.ring) ?_
      rintro _ w ⟨⟨bi, rfl, hbi⟩, hK⟩
      have hbt : bi = true := hbi.2 ⟨hr2, by rw [← rg_len, ← ids_len, hr1, ids_idl]; exact ids3 hok.2.1, by rw [hr1, ids_idl]⟩
      refine vl (mB rfl) <| ?_
      refine spl (t := 72) rfl (fun h5 => ?_) (fun h5 => ?_)
      ·refine gy rfl <| vl mv <| gy rfl <| vl (fa Tryz.underlying30 rfl Ty.z23 rfl) <| gy rfl <| vl (ldO hK Ty.o23 2 rfl rfl rfl) <| gy rfl <| ?_
       refine cl Tryz.call26 rfl (implRingIds_c hK hW.ring hr0) ?_
       rintro u3 w ⟨G7, hG7, hu3, hK⟩
       rw [hW.rg] at hu3
       refine gy rfl <| ?_
       refine cl Tryz.call25 rfl (sameInts_c hK (hu2.mono hG7) hu3) ?_
       rintro _ w ⟨rfl, hK⟩
       have hWc := hWc.mono hG7
       refine vl (pk rfl) <| vl (mB rfl) <| ?_
       refine spl (t := 79) rfl (fun h6 => ?_) (fun h6 => ?_)
       ·refine gy rfl <| vl (lsO hK Ty.a30 Ty.s30 0 rfl rfl rfl) <| gy rfl <| ?_
        refine cl Tryz.call23 rfl (implWorldValid_c hK hWc (by show wd2.items.length ≤ _; omega)) ?_
        rintro _ w ⟨rfl, hK⟩
        refine vl (pk rfl) <| vl (aB rfl) <| nl <| thn <| rt <| p1r (a := .bool _) rfl <| ?_
        exact ⟨congrArg Value.bool (dec_t hcok), _, _, hK, (hG'.trans hG6).trans hG7⟩
       ·exact absurd (decide_eq_true rfl) (by rw [h6]; simp)
      ·rw [hbt] at h5; cases h5

set_option maxRecDepth 20000 in
set_option maxHeartbeats 8000000 in
theorem FnWorldCalmScan_c (hK : K e w G L) (hE : ErrS 216 G a0 a1) (hc : BytS G cva code) : Ret Tryz.prog 7 #[cva] w (fun r w' => r = .bool true ∧ ∃ G' L', K e w' G' L' ∧ VLe G G') := by
 refine enter1 (args := [cva]) Tryz.func7 rfl rfl rfl rfl ?_
 refine sq <| rg <| ?_
 refine vl (aB rfl) <| nl <| thn <| sq <| sq <| rg <| vl mv <| vl (ln Tryz.underlying22 rfl hc.len) <| vl (gt rfl rfl) <| nl <| thn <| ?_
 refine cdP rfl (fun hbig => ?_) (fun hbig => ?_)
 ·refine sq <| rg <| ?_
  refine vl (aB rfl) <| nl <| thn <| rt <| thr <| p1r (a := .bool _) rfl <| ?_
  exact ⟨rfl, _, _, hK, VLe.refl _⟩
 ·refine sk <| thn <| sq <| rg <| ?_
  refine vl mv <| ?_
  refine cl Tryz.call17 rfl (DrawWorldPlay_c hK hc) ?_
  rintro _ w ⟨G1, v, u, xs, es, rfl, hG1, hv, hu, hel, hK⟩
  refine vl mv <| vl (ext rfl rfl) <| vl (ext rfl rfl) <| vl asg <| vl asg <| nl <| thn <| sq <| rg <| vl mv <| vl mv <| ?_
  refine cl Tryz.call18 rfl (implWorldPlay_c (hE.mono hG1) hK hv hu) ?_
  rintro _ w ⟨G2, W, wd, rs, bb, rfl, hG2, hW, hb, hwd, hK⟩
  refine vl mv <| vl (ext rfl rfl) <| vl (ext rfl rfl) <| ?_
  refine al hK Ty.i30 rfl ?_
  intro b5 w hK
  refine soS hK Ty.i30 0 rfl rfl rfl rfl (WdS.one hW) rfl ?_
  intro w hK
  refine vl (aB rfl) <| nl <| thn <| sq <| rg <| vl mv <| vl mv <| ?_
  refine cl Tryz.call19 rfl (specWorldPlay_c hK (hv.mono hG2) (EF.mono hu hG2)) ?_
  rintro _ w ⟨G3, W2, wd2, rs2, bb2, rfl, hG3, hW2, hb2, hwd2, hK⟩
  obtain rfl : bb2 = bb := Bool.eq_iff_iff.2 (hb2.trans hb.symm)
  obtain rfl : wd2 = wd := hwd2.trans hwd.symm
  clear hb2 hwd2
  have hG := (hG1.trans hG2).trans hG3
  replace hE := hE.mono hG
  replace hW := hW.mono hG3
  replace hv := hv.mono (hG2.trans hG3)
  replace hu := EF.mono hu (hG2.trans hG3)
  have hlen := hel
  refine vl mv <| vl (ext rfl rfl) <| vl (ext rfl rfl) <| ?_
  refine al hK Ty.i30 rfl ?_
  intro b7 w hK
  refine soS hK Ty.i30 0 rfl rfl rfl rfl (WdS.one hW2) rfl ?_
  intro w hK
  refine vl (aB rfl) <| nl <| thn <| sq <| sq <| rg <| vl (mB rfl) <| vl (mB rfl) <| vl (neB Tryz.underlying4 rfl rfl) <| vl (mB rfl) <| ?_
  refine spl (t := 36) rfl (fun h1 => ?_) (fun h1 => ?_)
  ·simp at h1
  ·refine gy rfl <| vl (lsO hK Ty.a30 Ty.s30 1 rfl rfl rfl) <| gy rfl <| vl (lsO hK Ty.a30 Ty.s30 0 rfl rfl rfl) <| gy rfl <| ?_
   refine cl Tryz.call12 rfl (sameWorld_c hK hW hW2) ?_
   rintro _ w ⟨rfl, hK⟩
   refine gy rfl <| vl (ntB rfl) <| vl (pk rfl) <| vl (mB rfl) <| ?_
   refine spl (t := 42) rfl (fun h2 => ?_) (fun h2 => ?_)
   ·exact absurd rfl (not_dec (Eq.mp (Bool.not_eq_true' _) h2))
   ·refine gy rfl <| vl (mB rfl) <| gy rfl <| vl (ntB rfl) <| vl (pk rfl) <| nl <| thn <| ?_
    refine cdB rfl (fun h3 => ?_) (fun h3 => ?_)
    ·refine sq <| rg <| ?_
     refine vl (mB rfl) <| vl (mB rfl) <| vl (eqB Tryz.underlying4 rfl rfl) <| vl (mB rfl) <| ?_
     refine spl (t := 49) rfl (fun h7 => ?_) (fun h7 => ?_)
     ·refine gy rfl <| vl (lsO hK Ty.a30 Ty.s30 1 rfl rfl rfl) <| gy rfl <| vl (lsO hK Ty.a30 Ty.s30 0 rfl rfl rfl) <| gy rfl <| ?_
      refine cl Tryz.call12 rfl (sameWorld_c hK hW hW2) ?_
      rintro _ w ⟨rfl, hK⟩
      refine vl (pk rfl) <| vl (aB rfl) <| nl <| thn <| rt <| thr <| p1r (a := .bool _) rfl <| ?_
      exact ⟨congrArg Value.bool (dec_t rfl), _, _, hK, hG⟩
     ·simp at h7
    ·obtain rfl : bb2 = true := by simpa using h3
     have hpl := hb.1 rfl
     rw [if_pos rfl] at hwd
     have hok : WdOk wd2 := by rw [hwd]; exact plF_ok hpl
     have hil : wd2.items.length ≤ 1000000 := by have := hok.wda.zl; omega
     have hilk : wd2.items.length ≤ 64 := hok.wda.zl
     have hb := doW_ok hok 13 0 0 0
     have hcok := calW_ok hb
     have hbs := begin_scan wd2 0 0 0
     obtain ⟨w1, hw1⟩ : ∃ w1, w1 = calW (doW wd2 13 0 0 0) := ⟨_, rfl⟩
     have hw0 : w1 = { w1 with scan := (0, []) } := by rw [hw1]; show calW _ = _; unfold calW; rw [hbs.1]
     have hks : w1.items = wd2.items := by rw [hw1]; exact hbs.2
     have hown : ∀ k, 0 ≤ own w1 k := fun k => by rw [hw1, own_cal hb]; exact nxt_ge hb k
     rw [← hw1] at hcok
     refine sk <| thn <| sq <| rg <| ?_
     refine vl (lsO hK Ty.a30 Ty.s30 1 rfl rfl rfl) <| vl (bd [(0, _)] Ty.p32 Ty.i32 rfl ⟨⟨rfl, rfl⟩, trivial⟩ rfl) <| ?_
     refine cl Tryz.call10 rfl (implWorldDo_c (kd := 13) (a := 0) (b := 0) (c := 0) hE hK hW hil) ?_
     rintro _ w ⟨G4, Wb, qb, hG4, rfl, hWb, hK⟩
     rw [wdF_yes hok] at hWb
     refine cl Tryz.call24 rfl (implWorldCalm_c hK hWb (by have := hb.wda.zl; omega)) ?_
     rintro _ w ⟨G5, Wc, q5, hG5, rfl, hWc, hK⟩
     rw [calF_yes hb, ← hw1, hw0] at hWc
     have hE := hE.mono (hG4.trans hG5)
     refine al hK Ty.i30 rfl ?_
     intro b9 w hK
     refine soS hK Ty.i30 0 rfl rfl rfl rfl (WdS.one hWc) rfl ?_
     intro w hK
     refine nl <| thn <| sq <| sq <| rg <| vl (aI rfl) <| nl <| thn <| bk <| ?_
     have hl64 : w1.leases.length ≤ 12 := hcok.2.2.1.1.2
     refine lp (σ := Nat × View × Wv × List Rn × Sn) (fun s => [(9, .pointer (some ⟨b9, 0, none⟩)), (10, .int .i64 (s.1 : Int))]) (fun s w => s.1 ≤ w1.leases.length + 1 ∧ VLe G5 s.2.1 ∧ WdS s.2.1 lc s.2.2.1 { w1 with scan := s.2.2.2.2 } s.2.2.2.1 ∧ WdOk { w1 with scan := s.2.2.2.2 } ∧ Sct w1.leases (keys w1.items) s.1 s.2.2.2.2 ∧ K e w s.2.1 ((b9, row (wc s.2.2.1) 30) :: (b7, row (wc W2) 30) :: (b5, row (wc W) 30) :: L)) (fun s => w1.leases.length + 1 - s.1) (0, G5, Wc, q5, (0, [])) ⟨rfl, rfl, trivial⟩ ⟨Nat.zero_le _, VLe.refl _, hWc, hw0 ▸ hcok, Sct.zero, hK⟩ ?_
     clear hK hWc
     rintro ⟨i, G6, Wn, qn, s⟩ g w ⟨hi, hG6, hWn, hokn, hsc, hK⟩
     simp only at hi hG6 hWn hokn hsc hK
     have hE := hE.mono hG6
     have hlb := hWn.leases
     have hit := hWn.items
     have hitl : w1.items.length ≤ 64 := by rw [hks]; exact hilk
     refine sq <| sq <| rg <| ?_
     refine vl (mI rfl) <| vl (fa Tryz.underlying30 rfl Ty.z24 rfl) <| vl (ldO hK Ty.o24 0 rfl rfl rfl) <| vl (ln Tryz.underlying24 rfl hlb.len) <| vl (le rfl rfl) <| nl <| thn <| ?_
     refine cdP rfl (fun hx => ?_) (fun hx => ?_)
     ·have hx' : (i : Int) ≤ w1.leases.length := hx
      obtain ⟨s', hs1, hs2⟩ := Sct.step hown hcok.2.2.1 hcok.wda.it.2 hsc
      refine sk <| thn <| sq <| bk <| rg <| ?_
      refine vl (lsO hK Ty.a30 Ty.s30 0 rfl rfl rfl) <| vl (bd [(0, _)] Ty.p32 Ty.i32 rfl ⟨⟨rfl, rfl⟩, trivial⟩ rfl) <| ?_
      refine cl Tryz.call10 rfl (implWorldDo_c (kd := 14) (a := 0) (b := 0) (c := 0) hE hK hWn (by show w1.items.length ≤ _; omega)) ?_
      rintro _ w ⟨G7, Wm, qm, hG7, rfl, hWm, hK⟩
      rw [wdF_yes hokn, hs1] at hWm
      refine soS hK Ty.i30 0 rfl rfl rfl rfl (WdS.one hWm) rfl ?_
      intro w hK
      refine nl <| bkn <| thn <| rg <| vl (mI rfl) <| vl (ad rfl rfl) <| vl (aI rfl) <| nl <| thn <| ?_
      exact ⟨(i + 1, G7, Wm, qm, s'), ⟨rfl, rfl, trivial⟩, ⟨by simp only; omega, hG6.trans hG7, hWm, by have := doW_ok hokn 14 0 0 0; rw [hs1] at this; exact this, hs2, hK⟩, by simp only; omega⟩
     ·have hx' : ¬ (i : Int) ≤ w1.leases.length := hx
      obtain rfl : i = w1.leases.length + 1 := by omega
      have hdn := Sct.done hcok.2.2.1 hcok.wda.it.2 hsc
      refine ex <| the <| the <| bkh <| thn <| sq <| rg <| ?_
      refine bs0 hK Tryz.underlying26 Ty.i3 ?_
      intro b68 w hK
      refine vl asg <| nl <| thn <| sq <| sq <| rg <| vl (aI rfl) <| nl <| thn <| bk <| ?_
      replace hK : K _ _ _ ((b9, row (wc Wn) 30) :: ([(b68, row [] 3)] ++ ((b7, row (wc W2) 30) :: (b5, row (wc W) 30) :: L))) := hK.reo
      refine lp (σ := Nat × Value × Own) (fun s => [(9, .pointer (some ⟨b9, 0, none⟩)), (11, s.2.1), (12, .int .i64 (s.1 : Int))]) (fun s w => s.1 ≤ w1.items.length ∧ OS 1 3 s.2.1 ((w1.items.take s.1).map (·.1)).length (ints ((w1.items.take s.1).map (·.1))) s.2.2 ∧ K e w G6 ((b9, row (wc Wn) 30) :: (s.2.2 ++ ((b7, row (wc W2) 30) :: (b5, row (wc W) 30) :: L)))) (fun s => w1.items.length - s.1) (0, .slice (some ⟨b68, 0, none⟩) 0 0, [(b68, row [] 3)]) ⟨rfl, rfl, rfl, trivial⟩ ⟨Nat.zero_le _, OS.none, hK⟩ ?_
      clear hK
      rintro ⟨j, u, A⟩ g w ⟨hj, ho, hK⟩
      simp only at hj ho hK
      refine sq <| sq <| rg <| ?_
      refine vl (mI rfl) <| vl (fa Tryz.underlying30 rfl Ty.z25 rfl) <| vl (ldO hK Ty.o25 0 rfl rfl rfl) <| vl (ln Tryz.underlying25 rfl hit.len) <| vl (lt rfl rfl) <| nl <| thn <| ?_
      refine cdP rfl (fun hy => ?_) (fun hy => ?_)
      ·have hj' : j < w1.items.length := by simp only at hy; omega
       refine sk <| thn <| sq <| bk <| rg <| ?_
       refine vl mv <| vl (fa Tryz.underlying30 rfl Ty.z25 rfl) <| vl (ldO hK Ty.o25 0 rfl rfl rfl) <| vl (mI rfl) <| vl (ixm (m := j) Tryz.underlying25 Ty.s54 rfl hit.1 rfl om om) <| vl (fe Tryz.underlying54 rfl Ty.z3 rfl hit.1 om) <| vl (ldV hK Ty.o3 rfl (hit.cell om 0 rfl)) <| ?_
       refine bsN [.tmp 82] hK Tryz.underlying26 Ty.i3 rfl rfl rfl rfl rfl rfl rfl rfl ?_
       intro b83 w hK
       replace hK : K e w G6 ((b83, row [.int .i64 w1.items[j].1] 3) :: (b9, row (wc Wn) 30) :: (A ++ ((b7, row (wc W2) 30) :: (b5, row (wc W) 30) :: L))) := hK
       replace hK : K _ _ _ ((b83, row [.int .i64 w1.items[j].1] 3) :: (A ++ ((b9, row (wc Wn) 30) :: (b7, row (wc W2) 30) :: (b5, row (wc W) 30) :: L))) := hK.reo
       refine apI1 (k := w1.items[j].1) hK Tryz.underlying26 Ty.i3 rfl rfl ho rfl (by simp; omega) fun v' A' w ho hK => ?_
       replace hK : K _ _ _ ((b9, row (wc Wn) 30) :: (A' ++ ((b7, row (wc W2) 30) :: (b5, row (wc W) 30) :: L))) := hK.reo
       refine vl asg <| nl <| bkn <| thn <| rg <| vl (mI rfl) <| vl (ad rfl rfl) <| vl (aI rfl) <| nl <| thn <| ?_
       exact ⟨(j + 1, v', A'), ⟨rfl, rfl, rfl, trivial⟩, ⟨hj', by rw [List.take_succ_eq_append_getElem hj', List.map_append]; exact ho, hK⟩, by simp only; omega⟩
      ·have hj' : j = w1.items.length := by simp only at hy; omega
       subst hj'
       rw [List.take_length] at ho
       have hpub := K.pubO (A := A) (L := (b9, row (wc Wn) 30) :: (b7, row (wc W2) 30) :: (b5, row (wc W) 30) :: L) (K.mid (A := [_]) (B := A) hK) ho
       clear hK ho
       obtain ⟨G7, hG7, hu7, hK⟩ := hpub
       have hWn := hWn.mono hG7
       refine ex <| the <| the <| bkh <| thn <| sq <| rg <| ?_
       refine vl (fa Tryz.underlying30 rfl Ty.z28 rfl) <| vl (lsP (u := [.int .i64 Wn.next, Wn.t]) hK Ty.a28 Ty.s28 0 rfl rfl rfl rfl) <| ?_
       refine cl Tryz.call20 rfl (implScanDone_c hK hWn.told) ?_
       rintro _ w ⟨rfl, hK⟩
       refine vl (mB rfl) <| ?_
       refine spl (t := 88) rfl (fun h8 => ?_) (fun h8 => ?_)
       ·refine gy rfl <| vl (fa Tryz.underlying30 rfl Ty.z28 rfl) <| gy rfl <| vl (fa Tryz.underlying28 rfl Ty.z26 rfl) <| gy rfl <| vl (ldO hK Ty.o26 0 rfl rfl rfl) <| gy rfl <| vl mv <| gy rfl <| ?_
        refine cl Tryz.call25 rfl (sameInts_c hK hWn.told hu7) ?_
        rintro _ w ⟨rfl, hK⟩
        refine vl (pk rfl) <| vl (aB rfl) <| nl <| thn <| rt <| p1r (a := .bool _) rfl <| ?_
        exact ⟨congrArg Value.bool (decide_eq_true hdn.2), _, _, hK, (((hG.trans hG4).trans hG5).trans hG6).trans hG7⟩
       ·have hnx := hWn.next
        exact absurd ⟨by rw [hnx]; exact hokn.2.2.2.2.1, hnx.trans hdn.1⟩ (not_dec h8)
end
end Go.Proofs.YthblmldlkipidaaGreatDoor
