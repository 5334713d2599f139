/- Contracts of the functions that draw worlds. Contracts: a node's round of the specification. Conditions: those that each row states. -/
import Derived.Test.YtmfolinemnlnbaaGreatDoorDe
import Derived.Test.YtmfolinemnlnbaaGreatDoorOx
import Derived.Test.YtmfolinemnlnbaaGreatDoorRp
namespace Go.Proofs.YtmfolinemnlnbaaGreatDoor
open Go Go.Ro Tryz
section
variable {e w : World} {G : View} {L A : Own} {v u cva : Value} {code xs ys : List Int} {rs qs : List Rn} {W W' : Wv} {wd wd' : Wd} {a b c k kd p : Int} {rb : Nat}
set_option maxHeartbeats 4000000 in
theorem l92World_c (hK : K e w G ((rb, row [cva, .int .i64 p] 98) :: L)) (hcode : BytS G cva code) (hlen : code.length ≤ 2000) (h0 : 0 ≤ p) (h1 : p ≤ 700000000) :
  Ret prog 30 #[.pointer (some ⟨rb, 0, none⟩)] w (fun r w' => ∃ G' W wd rs p', VLe G G' ∧ r = .agg (wc W).toArray ∧ WdS G' lc W wd rs ∧ WdOk wd ∧ p ≤ p' ∧ p' ≤ p + 4000 ∧ K e w' G' ((rb, row [cva, .int .i64 p'] 98) :: L)) := by
 refine enterG1 (args := [.pointer (some ⟨rb, 0, none⟩)]) func30 rfl rfl rfl rfl ?_
 refine sq <| rg <| ?_
 refine al hK Ty.i30 rfl ?_
 intro b2 w hK
 refine nl <| thn <| sq <| rg <| vl mv <| ?_
 refine cl call51 rfl (l91Good_c hK.swp hcode hlen h0 om om om) ?_
 rintro v w ⟨G1, xs, A, p1, hG1, ho, has, hl1, hl2, hp1, hp2, hK⟩
 obtain ⟨G2, hG2, hx, hK⟩ := K.pubO (K.mid (A := [_]) (B := A) hK) ho
 replace hK := hK.swp
 refine cl call52 rfl (specWorldNew_c hK hx) ?_
 rintro _ w ⟨G3, W, wd, rs, b, rfl, hG3, hW, hb, hwd, hK⟩
 have hbt : b = true := hb.2 ⟨⟨⟨by omega, by omega⟩, has⟩, by omega⟩
 subst hbt
 rw [if_pos rfl] at hwd
 have hok : WdOk wd := by rw [hwd]; exact newW_ok ⟨⟨by omega, by omega⟩, has⟩ (by omega)
 have hG := (hG1.trans hG2).trans hG3
 replace hcode := hcode.mono hG
 clear hwd
 refine vl mv <| vl (ext rfl rfl) <| vl (ext rfl rfl) <| ?_
 refine al hK Ty.i30 rfl ?_
 intro b3 w hK
 refine soS hK Ty.i30 0 rfl rfl rfl rfl (WdS.one hW) rfl ?_
 intro w hK
 refine vl (aB rfl) <| nl <| thn <| sq <| sq <| rg <| vl mv <| ?_
 refine cl call32 rfl (pickJ_c 2 hK rfl hcode hlen om om om) ?_
 rintro _ w ⟨⟨k13, rfl, hk13, hkn13⟩, hK⟩
 refine vl (eq rfl rfl) <| nl <| thn <| ?_
 refine ct (σ := Int × Int) (fun s => [(0, .pointer (some ⟨rb, 0, none⟩)), (2, .pointer (some ⟨b2, 0, none⟩)), (3, .pointer (some ⟨b3, 0, none⟩))]) (fun s w => (p ≤ s.2 ∧ s.2 ≤ p + 30) ∧ ∃ W wd rs, WdS G3 lc W wd rs ∧ WdOk wd ∧ K e w G3 ((b3, row (wc W) 30) :: (b2, row [.int .i64 0, .slice none 0 0, .slice none 0 0, .slice none 0 0, .int .i64 0, .slice none 0 0, .slice none 0 0] 30) :: (rb, row [cva, .int .i64 s.2] 98) :: L)) ?_ ?_
 ·refine cdP rfl (fun c0 => ?_) fun c0 => ?_
  ·refine rg <| ?_
   refine vl mv <| ?_
   refine cl call32 rfl (pickJ_c 2 hK rfl hcode hlen om om om) ?_
   rintro _ w ⟨⟨k16, rfl, hk16, hkn16⟩, hK⟩
   refine vl (fa underlying30 rfl Ty.z3 rfl) <| ?_
   refine so hK Ty.i3 rfl 0 rfl rfl rfl rfl rfl ?_
   intro w hK
   refine nl <| ctn <| ?_
   exact ⟨(0, _), ⟨rfl, rfl, rfl, trivial⟩, ⟨by simp only; omega, by simp only; omega⟩, { W with now := k16 }, { wd with now := k16 }, rs, ⟨rfl, hW.2, hW.3, hW.4, hW.5, hW.6, hW.7, hW.8⟩, ⟨⟨hk16, by show k16 ≤ 999; omega⟩, hok.2.1, hok.2.2.1, hok.2.2.2.1, hok.2.2.2.2.1, hok.2.2.2.2.2.1, hok.2.2.2.2.2.2⟩, hK⟩
  ·refine sk <| ctn <| ?_
   exact ⟨(0, _), ⟨rfl, rfl, rfl, trivial⟩, ⟨by simp only; omega, by simp only; omega⟩, W, wd, rs, hW, hok, hK⟩
 ·clear hW hok hK
  rintro ⟨j, q⟩ g w ⟨⟨q1, q2⟩, W, wd, rs, hW, hok, hK⟩
  simp only at q1 q2 hK
  refine thn <| sq <| sq <| rg <| ?_
  refine vl (aI rfl) <| nl <| thn <| bk <| ?_
  refine lp (σ := Nat × View × Wv × Wd × List Rn × Int) (fun s => [(0, .pointer (some ⟨rb, 0, none⟩)), (2, .pointer (some ⟨b2, 0, none⟩)), (3, .pointer (some ⟨b3, 0, none⟩)), (5, .int .i64 (s.1 : Int))]) (fun s w => s.1 ≤ 70 ∧ VLe G3 s.2.1 ∧ WdS s.2.1 lc s.2.2.1 s.2.2.2.1 s.2.2.2.2.1 ∧ WdOk s.2.2.2.1 ∧ (p ≤ s.2.2.2.2.2 ∧ s.2.2.2.2.2 ≤ p + 30 + 41 * s.1) ∧ K e w s.2.1 ((b3, row (wc s.2.2.1) 30) :: (b2, row [.int .i64 0, .slice none 0 0, .slice none 0 0, .slice none 0 0, .int .i64 0, .slice none 0 0, .slice none 0 0] 30) :: (rb, row [cva, .int .i64 s.2.2.2.2.2] 98) :: L)) (fun s => 70 - s.1) (0, G3, W, wd, rs, q) ⟨rfl, rfl, rfl, rfl, trivial⟩ ⟨Nat.zero_le _, VLe.refl _, hW, hok, ⟨q1, by simp only; omega⟩, hK⟩ ?_
  clear hW hok hK
  rintro ⟨i, G4, W, wd, rs, q⟩ g w ⟨hi, hG4, hW, hok, ⟨q1, q2⟩, hK⟩
  simp only at hi hG4 hW hok q1 q2 hK
  replace hcode := hcode.mono hG4
  refine sq <| sq <| rg <| ?_
  refine vl (mI rfl) <| vl mv <| ?_
  refine cl call32 rfl (pickJ_c 2 hK rfl hcode hlen om om om) ?_
  rintro _ w ⟨⟨k20, rfl, hk20, hkn20⟩, hK⟩
  refine vl (lt rfl rfl) <| nl <| thn <| ?_
  refine cdP rfl (fun hc => ?_) fun hc => ?_
  ·refine sk <| thn <| sq <| bk <| ?_
   refine rgs (fun w => K e w G4 L) (fun w => K _ w _ _) [U,U,U,U,U,U] 6 Ty.mixed rfl rfl (hK.drawn _) ?_
   intro w hK
   have hS : (fun w => K e w G4 L) w := K.sl hK
   refine xt (i := 1) rfl kr rfl rfl (fun w hK => mv) hS <| ?_
   refine xe2 (i := 0) (j := 2) kr rfl rfl rfl rfl ?_ ?_
   ·refine vl (lsO hK Ty.a30 Ty.s30 0 rfl rfl rfl) <| ?_
    refine xnk (K.sl hK) fun hS => ?_
    refine xe (i := 2) kr rfl rfl ?_
    refine vl (lsO hK Ty.a30 Ty.s30 0 rfl rfl rfl) <| ?_
    refine xnk (K.sl hK) fun hS => ?_
    refine xe (i := 3) kr rfl rfl ?_
    refine cl call31 rfl (l92EventJ_c (rb := rb) 2 hK rfl hcode hlen om (by simp only at *; omega) hW hok) ?_
    rintro _ w ⟨kd, a, b, c, p2, rfl, r1, r2, hK⟩
    refine xnk (K.sl hK) fun hS => ?_
    refine xe (i := 4) kr rfl rfl ?_
    refine cl call37 rfl (l51Do_c hK hW hok.wda) ?_
    rintro _ w ⟨G5, W2, rs2, hG5, rfl, hW2, hK⟩
    refine xnk ((K.vle (K.sl hK) hG5)) fun hS => ?_
    refine xe (i := 5) kr rfl rfl ?_
    refine soS hK Ty.i30 0 rfl rfl rfl rfl (WdS.one hW2) rfl ?_
    intro w hK
    refine xnk ((K.vle (K.sl hK) hG5)) fun hS => ?_
    refine xd kr <| bkn <| thn <| rg <| vl (mI rfl) <| vl (ad rfl rfl) <| vl (aI rfl) <| nl <| thn <| ?_
    exact ⟨(i + 1, G5, W2, _, rs2, p2), ⟨rfl, rfl, rfl, rfl, trivial⟩, ⟨by simp only at *; omega, hG4.trans hG5, hW2, doW_ok hok kd a b c, ⟨by simp only at *; omega, by simp only at *; omega⟩, hK⟩, by simp only at *; omega⟩
   ·refine vl (lsO hK Ty.a30 Ty.s30 0 rfl rfl rfl) <| ?_
    refine xnk (K.sl hK) fun hS => ?_
    refine xe2 (i := 0) (j := 3) kr rfl rfl rfl rfl ?_ ?_
    ·refine vl (lsO hK Ty.a30 Ty.s30 0 rfl rfl rfl) <| ?_
     refine xnk (K.sl hK) fun hS => ?_
     refine xe (i := 3) kr rfl rfl ?_
     refine cl call31 rfl (l92EventJ_c (rb := rb) 2 hK rfl hcode hlen om (by simp only at *; omega) hW hok) ?_
     rintro _ w ⟨kd, a, b, c, p2, rfl, r1, r2, hK⟩
     refine xnk (K.sl hK) fun hS => ?_
     refine xe (i := 4) kr rfl rfl ?_
     refine cl call37 rfl (l51Do_c hK hW hok.wda) ?_
     rintro _ w ⟨G5, W2, rs2, hG5, rfl, hW2, hK⟩
     refine xnk ((K.vle (K.sl hK) hG5)) fun hS => ?_
     refine xe (i := 5) kr rfl rfl ?_
     refine soS hK Ty.i30 0 rfl rfl rfl rfl (WdS.one hW2) rfl ?_
     intro w hK
     refine xnk ((K.vle (K.sl hK) hG5)) fun hS => ?_
     refine xd kr <| bkn <| thn <| rg <| vl (mI rfl) <| vl (ad rfl rfl) <| vl (aI rfl) <| nl <| thn <| ?_
     exact ⟨(i + 1, G5, W2, _, rs2, p2), ⟨rfl, rfl, rfl, rfl, trivial⟩, ⟨by simp only at *; omega, hG4.trans hG5, hW2, doW_ok hok kd a b c, ⟨by simp only at *; omega, by simp only at *; omega⟩, hK⟩, by simp only at *; omega⟩
    ·skip
     refine cl call31 rfl (l92EventJ_c (rb := rb) 2 hK rfl hcode hlen om (by simp only at *; omega) hW hok) ?_
     rintro _ w ⟨kd, a, b, c, p2, rfl, r1, r2, hK⟩
     refine xnk (K.sl hK) fun hS => ?_
     refine xe (i := 0) kr rfl rfl ?_
     refine vl (lsO hK Ty.a30 Ty.s30 0 rfl rfl rfl) <| ?_
     refine xnk (K.sl hK) fun hS => ?_
     refine xe (i := 4) kr rfl rfl ?_
     refine cl call37 rfl (l51Do_c hK hW hok.wda) ?_
     rintro _ w ⟨G5, W2, rs2, hG5, rfl, hW2, hK⟩
     refine xnk ((K.vle (K.sl hK) hG5)) fun hS => ?_
     refine xe (i := 5) kr rfl rfl ?_
     refine soS hK Ty.i30 0 rfl rfl rfl rfl (WdS.one hW2) rfl ?_
     intro w hK
     refine xnk ((K.vle (K.sl hK) hG5)) fun hS => ?_
     refine xd kr <| bkn <| thn <| rg <| vl (mI rfl) <| vl (ad rfl rfl) <| vl (aI rfl) <| nl <| thn <| ?_
     exact ⟨(i + 1, G5, W2, _, rs2, p2), ⟨rfl, rfl, rfl, rfl, trivial⟩, ⟨by simp only at *; omega, hG4.trans hG5, hW2, doW_ok hok kd a b c, ⟨by simp only at *; omega, by simp only at *; omega⟩, hK⟩, by simp only at *; omega⟩
  ·skip
   refine ex <| the <| the <| bkh <| thn <| sq <| rg <| ?_
   refine vl (lsO hK Ty.a30 Ty.s30 0 rfl rfl rfl) <| ?_
   refine soS hK Ty.i30 1 rfl rfl rfl rfl (WdS.one hW) rfl ?_
   intro w hK
   refine nl <| thn <| rt <| pg1r (rvS hK Ty.a30 Ty.s30 1 rfl rfl rfl) <| ?_
   exact ⟨G4, W, wd, rs, _, hG.trans hG4, rfl, hW, hok, by simp only at *; omega, by simp only at *; omega, hK.drop1.drop1⟩
end
open Go Go.Ro Tryz
section
variable {e w : World} {G : View} {L A : Own} {v u : Value} {rs qs : List Rn} {id other k : Int} {i j : Nat}
theorem ndA_ix {G : View} {v : Value} {rs rs' : List Rn} {id : Int} {i : Nat} (hn : NdA G rs id i) {G' : View} (hv : RngS G' v rs') (hok : RgOk (rgl rs')) (hi : ids (rgl rs') = ids (rgl rs)) : NdA G' rs' id i := by
 obtain ⟨i', h⟩ := NdA.of hv hok (by rw [hi]; exact hn.mem)
 have : i' = i := by rw [← h.hfx, ← hn.hfx]; exact fx_ids hi id
 rw [← this]; exact h
theorem l4Stabilize_c (hK : K e w G L) (hv : RngS G v rs) (hsf : RgSafe (rgl rs)) (hn : NdA G rs id i) :
  Ret prog 222 #[v, .int .i64 (i : Int)] w (fun r w' => ∃ G' rs', VLe G G' ∧ RngS G' r rs' ∧ rgl rs' = stabR (rgl rs) id ∧ K e w' G' L) := by
 have hi := hn.lt
 refine enter1 (args := [v, .int .i64 (i : Int)]) func222 rfl rfl rfl rfl ?_
 refine sq <| rg <| ?_
 refine vl asg <| nl <| thn <| sq <| rg <| vl (aB rfl) <| nl <| thn <| sq <| sq <| rg <| vl (aI rfl) <| nl <| thn <| ?_
 refine ct (σ := View × Value × List Rn) (fun s => [(0, s.2.1), (1, .int .i64 (i : Int))]) (fun s w => VLe G s.1 ∧ RngS s.1 s.2.1 s.2.2 ∧ rgl s.2.2 = drN 2 (rgl rs) id ∧ K e w s.1 L) ?_ ?_
 ·refine bk <| ?_
  refine lp (σ := Nat × Bool × View × Value × List Rn) (fun s => [(0, s.2.2.2.1), (1, .int .i64 (i : Int)), (5, .bool s.2.1), (6, .int .i64 (s.1 : Int))]) (fun s w => s.1 ≤ 2 ∧ VLe G s.2.2.1 ∧ RngS s.2.2.1 s.2.2.2.1 s.2.2.2.2 ∧ RgSafe (rgl s.2.2.2.2) ∧ ids (rgl s.2.2.2.2) = ids (rgl rs) ∧ drN (2 - s.1) (rgl s.2.2.2.2) id = drN 2 (rgl rs) id ∧ (s.2.1 = false → dr (rgl s.2.2.2.2) id = rgl s.2.2.2.2) ∧ K e w s.2.2.1 L) (fun s => 2 - s.1) (0, true, G, v, rs) ⟨rfl, rfl, rfl, rfl, trivial⟩ ⟨Nat.zero_le _, VLe.refl _, hv, hsf, rfl, rfl, (fun h => by cases h), hK⟩ ?_
  rintro ⟨n, dd, G1, v1, rs1⟩ g w ⟨hn2, hG1, hv1, hs1, hi1, hd1, hf1, hK⟩
  simp only at hn2 hG1 hv1 hs1 hi1 hd1 hf1 hK
  have hn1 := ndA_ix hn hv1 hs1.1 hi1
  refine sq <| sq <| rg <| ?_
  refine vl (mI rfl) <| vl (lt rfl rfl) <| vl (mB rfl) <| ?_
  refine splP (t := 12) rfl (fun h1 => ?_) fun h1 => ?_
  ·have hnn : n < 2 := by omega
   refine gy rfl <| vl (mB rfl) <| vl (pk rfl) <| nl <| thn <| ?_
   refine cdB rfl (fun h2 => ?_) fun h2 => ?_
   ·subst h2
    refine sk <| thn <| sq <| bk <| sq <| rg <| ?_
    refine vl mv <| vl (mI rfl) <| ?_
    refine cl call180 rfl (l4Drop_c hK hv1 hs1.1 hn1) ?_
    rintro _ w ⟨G2, hG2, ⟨v2, rs2, rfl, hv2, hr2⟩, hK⟩
    refine vl mv <| vl (ext rfl rfl) <| vl (ext rfl rfl) <| vl asg <| vl (aB rfl) <| nl <| thn <| sq <| rg <| vl mv <| vl asg <| nl <| thn <| rg <| vl (mB rfl) <| vl (aB rfl) <| nl <| bkn <| thn <| ?_
    refine rg <| vl (mI rfl) <| vl (ad rfl rfl) <| vl (aI rfl) <| nl <| thn <| ?_
    exact ⟨(n + 1, (dropR (rgl rs1) id).isSome, G2, v2, rs2), ⟨rfl, rfl, congrArg Value.bool ot_b, rfl, trivial⟩, ⟨hnn, hG1.trans hG2, hv2, by rw [hr2, ot_dr]; exact dr_safe hs1, by rw [hr2, ot_dr, dr_ids, hi1], by
     rw [hr2, ot_dr, ← hd1]; show drN (2 - (n + 1)) (dr _ _) _ = _
     have : 2 - n = (2 - (n + 1)) + 1 := by omega
     rw [this]; rfl, fun h => by
     rw [hr2, ot_dr]; have : dropR (rgl rs1) id = none := by simpa using h
     rw [dr_none this, dr_none this], hK⟩, by simp only; omega⟩
   ·have hdr : rgl rs1 = drN 2 (rgl rs) id := by rw [← hd1]; exact (drN_fix (hf1 (by simpa using h2)) _).symm
    refine ex <| the <| the <| bkh <| ctn <| ?_
    exact ⟨(G1, v1, rs1), ⟨rfl, rfl, trivial⟩, hG1, hv1, hdr, hK⟩
  ·have hdr : rgl rs1 = drN 2 (rgl rs) id := by
    have : n = 2 := by omega
    subst this; exact hd1
   refine gn rfl <| vl (pk rfl) <| nl <| thn <| ?_
   refine cdf rfl ?_
   refine ex <| the <| the <| bkh <| ctn <| ?_
   exact ⟨(G1, v1, rs1), ⟨rfl, rfl, trivial⟩, hG1, hv1, hdr, hK⟩
 ·rintro ⟨G1, v1, rs1⟩ g w ⟨hG1, hv1, hr1, hK⟩
  simp only at hG1 hv1 hr1 hK
  have hs1 : RgSafe (rgl rs1) := by rw [hr1]; exact drN_safe 2 _ hsf
  have hi1 : ids (rgl rs1) = ids (rgl rs) := by rw [hr1]; exact drN_ids 2 _
  have ha1 : a0 (ndAt (rgl rs1) id) ∈ ids (rgl rs1) := by rw [hi1, hr1]; exact dr2_live hsf hn.mem
  have hn1 := ndA_ix hn hv1 hs1.1 hi1
  refine thn <| sq <| rg <| ?_
  refine vl mv <| vl (mI rfl) <| ?_
  refine cl call181 rfl (l4Adopt_c hK hv1 hs1.1 hn1) ?_
  rintro _ w ⟨G2, hG2, ⟨v2, rs2, rfl, hv2, hr2⟩, hK⟩
  rw [ot_1] at hr2
  replace hr2 : rgl rs2 = ad1 (rgl rs1) id := hr2
  have hs2 : RgSafe (rgl rs2) := by rw [hr2]; exact ad1_safe hs1
  have hi2 : ids (rgl rs2) = ids (rgl rs) := by rw [hr2, ad1_ids, hi1]
  have ha2 : a0 (ndAt (rgl rs2) id) ∈ ids (rgl rs2) := by rw [hr2, ad1_ids]; exact ad1_live hn1.mem ha1
  have hn2 := ndA_ix hn hv2 hs2.1 hi2
  obtain ⟨m, hm⟩ := NdA.of hv2 hs2.1 ha2
  have hsl2 := hv2.sl
  have hx2 := hn2.aft
  have hlt2 := hn2.lt
  have hy2 := hn2.len
  have hz2 := hn2.ha0
  refine vl mv <| vl (ext rfl rfl) <| vl (ext rfl rfl) <| vl asg <| nl <| thn <| sq <| rg <| vl mv <| vl mv <| vl (mI rfl) <| vl (ixn underlying23 Ty.s40 rfl hsl2.1 rfl om) <| vl (fe underlying40 rfl Ty.z26 rfl hsl2.1 om) <| vl (ldV hK Ty.o26 rfl (hsl2.cell om 2 rfl)) <| vl (ixn1 underlying26 Ty.s3 rfl hx2.1 rfl om) <| vl (ldV hK Ty.o3 rfl (hx2.at om)) <| ?_
  refine cl call116 rfl (l3Find_c hK hv2) ?_
  rintro r9 w ⟨hr9, hK⟩
  rw [hz2, fI_in ha2, hm.hfx] at hr9
  subst hr9
  have hltm := hm.lt
  have hmb := hm.bef
  refine vl (aI rfl) <| nl <| thn <| sq <| sq <| rg <| vl mv <| vl (mI rfl) <| vl (ixn underlying23 Ty.s40 rfl hsl2.1 rfl om) <| vl (fe underlying40 rfl Ty.z3 rfl hsl2.1 om) <| vl (ldV hK Ty.o3 rfl (hsl2.cell om 1 rfl)) <| vl (ge rfl rfl) <| nl <| thn <| ?_
  refine ct (σ := View × Value × List Rn × Nat) (fun s => [(0, s.2.1), (1, .int .i64 (i : Int)), (9, .int .i64 (s.2.2.2 : Int))]) (fun s w => VLe G2 s.1 ∧ RngS s.1 s.2.1 s.2.2.1 ∧ rgl s.2.2.1 = clo1 (rgl rs2) id ∧ NdA s.1 s.2.2.1 (a0 (ndAt (rgl s.2.2.1) id)) s.2.2.2 ∧ K e w s.1 L) ?_ ?_
  ·refine cdP rfl (fun hc => ?_) fun hc => ?_
   ·have hc' : 0 ≤ (ndAt (rgl rs2) (a0 (ndAt (rgl rs2) id))).2.1 := by rw [← hmb]; exact hc
    refine sq <| rg <| ?_
    refine vl mv <| vl (mI rfl) <| vl mv <| vl (mI rfl) <| vl (ixn underlying23 Ty.s40 rfl hsl2.1 rfl om) <| vl (fe underlying40 rfl Ty.z3 rfl hsl2.1 om) <| vl (ldV hK Ty.o3 rfl (hsl2.cell om 1 rfl)) <| ?_
    refine cl call182 rfl (l4Closer_c hK hv2 hs2.1 hn2) ?_
    rintro _ w ⟨G3, hG3, ⟨v3, rs3, rfl, hv3, hr3⟩, hK⟩
    rw [ot_1, hmb] at hr3
    have hr3' : rgl rs3 = clo1 (rgl rs2) id := by unfold clo1; rw [if_pos hc']; exact hr3
    have hs3 : RgSafe (rgl rs3) := by rw [hr3']; exact clo1_safe hs2
    have hi3 : ids (rgl rs3) = ids (rgl rs2) := by rw [hr3', clo1_ids]
    have ha3 : a0 (ndAt (rgl rs3) id) ∈ ids (rgl rs3) := by rw [hr3', clo1_ids]; exact clo1_live ha2
    have hn3 := ndA_ix hn2 hv3 hs3.1 hi3
    obtain ⟨m3, hm3⟩ := NdA.of hv3 hs3.1 ha3
    have hsl3 := hv3.sl
    have hx3 := hn3.aft
    have hlt3 := hn3.lt
    have hy3 := hn3.len
    have hz3 := hn3.ha0
    refine vl mv <| vl (ext rfl rfl) <| vl (ext rfl rfl) <| vl asg <| nl <| thn <| rg <| vl mv <| vl mv <| vl (mI rfl) <| vl (ixn underlying23 Ty.s40 rfl hsl3.1 rfl om) <| vl (fe underlying40 rfl Ty.z26 rfl hsl3.1 om) <| vl (ldV hK Ty.o26 rfl (hsl3.cell om 2 rfl)) <| vl (ixn1 underlying26 Ty.s3 rfl hx3.1 rfl om) <| vl (ldV hK Ty.o3 rfl (hx3.at om)) <| ?_
    refine cl call116 rfl (l3Find_c hK hv3) ?_
    rintro r9 w ⟨hr9, hK⟩
    rw [hz3, fI_in ha3, hm3.hfx] at hr9
    subst hr9
    refine vl (aI rfl) <| nl <| ctn <| ?_
    exact ⟨(G3, v3, rs3, m3), ⟨rfl, rfl, rfl, trivial⟩, hG3, hv3, hr3', hm3, hK⟩
   ·have hc' : ¬ 0 ≤ (ndAt (rgl rs2) (a0 (ndAt (rgl rs2) id))).2.1 := by rw [← hmb]; exact hc
    refine sk <| ctn <| ?_
    exact ⟨(G2, v2, rs2, m), ⟨rfl, rfl, rfl, trivial⟩, VLe.refl _, hv2, by unfold clo1; rw [if_neg hc'], hm, hK⟩
  ·rintro ⟨G3, v3, rs3, m3⟩ g w ⟨hG3, hv3, hr3, hm3, hK⟩
   simp only at hG3 hv3 hr3 hm3 hK
   have hs3 : RgSafe (rgl rs3) := by rw [hr3]; exact clo1_safe hs2
   have hi3 : ids (rgl rs3) = ids (rgl rs2) := by rw [hr3, clo1_ids]
   have hn3 := ndA_ix hn2 hv3 hs3.1 hi3
   have hsl3 := hv3.sl
   have hlt3 := hn3.lt
   have hid3 := hn3.hid
   refine thn <| sq <| rg <| ?_
   refine vl mv <| vl (mI rfl) <| vl mv <| vl (mI rfl) <| vl (ixn underlying23 Ty.s40 rfl hsl3.1 rfl om) <| vl (fe underlying40 rfl Ty.z3 rfl hsl3.1 om) <| vl (ldV hK Ty.o3 rfl (hsl3.cell om 0 rfl)) <| ?_
   refine cl call183 rfl (l4Notify_c hK hv3 hs3.1 hm3 (by rw [hid3]; exact hn3.pid)) ?_
   rintro _ w ⟨G4, hG4, ⟨v4, rs4, rfl, hv4, hr4⟩, hK⟩
   rw [ot_1, hid3] at hr4
   refine vl mv <| vl (ext rfl rfl) <| vl (ext rfl rfl) <| vl asg <| nl <| thn <| sq <| rg <| vl mv <| vl asg <| nl <| thn <| rt <| p1r (a := _) rfl <| ?_
   exact ⟨G4, rs4, ((hG1.trans hG2).trans hG3).trans hG4, hv4, by rw [hr4, hr3, hr2, hr1]; rfl, hK⟩
theorem specRingStabilize_c (hK : K e w G L) (hv : RngS G v rs) : Ret prog 189 #[v, .int .i64 id] w (fun r w' => ∃ G', VLe G G' ∧ RgA G' r (tk (rgl rs) (Pt id) (stR (rgl rs) id)) ∧ K e w' G' L) := by
 refine enter2 (args := [v, .int .i64 id]) func189 rfl rfl rfl rfl ?_
 refine sq <| rg <| ?_
 refine vl asg <| vl (aB rfl) <| nl <| thn <| sq <| rg <| vl mv <| vl (mI rfl) <| ?_
 refine cl call179 rfl (l4One_c hK hv) ?_
 rintro _ w ⟨⟨n, b, rfl, hb, hn⟩, hK⟩
 refine vl mv <| vl (ext rfl rfl) <| vl (ext rfl rfl) <| vl (aI rfl) <| vl (aB rfl) <| nl <| thn <| sq <| sq <| rg <| vl (mB rfl) <| vl (ntB rfl) <| nl <| thn <| ?_
 refine cdB rfl (fun h1 => ?_) fun h1 => ?_
 ·have h1' : b = false := Eq.mp (Bool.not_eq_true' _) h1
  refine sq <| rg <| ?_
  refine bs0 hK underlying23 Ty.i40 ?_
  intro b16 w hK
  refine vl asg <| vl (aB rfl) <| nl <| thn <| rt <| thr <| p2r (a := _) (b := .bool _) rfl rfl <| ?_
  rw [tk_no fun h => by have := hb.2 h; rw [h1'] at this; cases this]
  exact ⟨_, VLe.refl _, ⟨_, [], rfl, RngS.lit, rfl⟩, hK.drop1⟩
 ·have h1' : b = true := Eq.mp (Bool.not_eq_false' _) h1
  have hs := hb.1 h1'
  have hn' := hn h1'
  subst hn'
  refine sk <| thn <| sq <| sq <| rg <| ?_
  refine vl (mI rfl) <| vl (lt rfl rfl) <| nl <| thn <| ?_
  refine cdP rfl (fun hc => ?_) fun hc => ?_
  ·have hid : id ∉ ids (rgl rs) := fun h => by have := fI_ge.2 h; omega
   refine sq <| rg <| ?_
   refine vl mv <| ?_
   refine cl call87 rfl (l3Copy_v hK hv hs.1.1) ?_
   rintro v1 w ⟨G1, rs1, hG, hr1, hv1, hK⟩
   refine vl asg <| vl (aB rfl) <| nl <| thn <| rt <| thr <| p2r (a := _) (b := .bool _) rfl rfl <| ?_
   refine ⟨G1, hG, ?_, hK⟩
   rw [tk_ot ⟨hs.1, hs.2⟩, show stR (rgl rs) id = none from if_neg hid]
   exact RgA.mk hv1 hr1
  ·have hid : id ∈ ids (rgl rs) := fI_ge.1 (by omega)
   obtain ⟨i, hni⟩ := NdA.of hv hs.1.1 hid
   refine sk <| thn <| sq <| rg <| ?_
   refine vl mv <| vl (mI rfl) <| ?_
   rw [fI_in hid, hni.hfx]
   refine cl call222 rfl (l4Stabilize_c hK hv hs.1 hni) ?_
   rintro v1 w ⟨G1, rs1, hG, hv1, hr1, hK⟩
   refine vl asg <| vl (aB rfl) <| nl <| thn <| rt <| p2r (a := _) (b := .bool _) rfl rfl <| ?_
   refine ⟨G1, hG, ?_, hK⟩
   rw [tk_ot ⟨hs.1, hs.2⟩, show stR (rgl rs) id = some (stabR (rgl rs) id) from if_pos hid]
   exact ⟨v1, rs1, rfl, hv1, hr1⟩
end
end Go.Proofs.YtmfolinemnlnbaaGreatDoor
