/- Drawn worlds, some of them wrong: what is drawn is a world. Drawn worlds, and who may change a key in them. Conditions: those that each row states. -/
import Derived.Test.YtmfolinemnlnbaaGreatDoorWx
import Derived.Test.YtmfolinemnlnbaaGreatDoorDi
import Derived.Test.YtmfolinemnlnbaaGreatDoorWe
namespace Go.Proofs.YtmfolinemnlnbaaGreatDoor
open Go Go.Ro Tryz
section
variable {e w : World} {G : View} {L A : Own} {v u cva : Value} {xs ys code : List Int} {ls ms : List Ls} {rs qs : List Rn} {zs ts : List It} {W W' : Wv} {wd wd' : Wd} {a b c k kd id other p : Int} {i j bk o rb : Nat}
set_option maxHeartbeats 4000000 in
theorem l92Wrong_c (hK : K e w G ((rb, row [cva, .int .i64 p] 98) :: L)) (hcode : BytS G cva code) (hlen : code.length ≤ 2000) (h0 : 0 ≤ p) (h1 : p ≤ 500000000) :
  Ret prog 33 #[.pointer (some ⟨rb, 0, none⟩)] w (fun r w' => ∃ G' W wd rs p', VLe G G' ∧ r = .agg (wc W).toArray ∧ WdS G' lc W wd rs ∧ wd.items.length ≤ 1000000 ∧ p ≤ p' ∧ p' ≤ p + 6000 ∧ K e w' G' ((rb, row [cva, .int .i64 p'] 98) :: L)) := by
 refine enterG1 (args := [.pointer (some ⟨rb, 0, none⟩)]) func33 rfl rfl rfl rfl ?_
 refine sq <| rg <| ?_
 refine al hK Ty.i30 rfl ?_
 intro b2 w hK
 refine nl <| thn <| sq <| rg <| vl mv <| ?_
 refine cl call30 rfl (l92World_c hK.swp hcode hlen h0 om) ?_
 rintro _ w ⟨G1, W0, wd, rs0, p1, hG1, rfl, hW0, hok, hp1, hp2, hK⟩
 refine cl call36 rfl (l51CopyO_c hK hW0 hok.2.1.1 (by have := hok.2.2.1.1; omega) (by have := hok.wda.zl; omega) (by have := hok.2.2.2.2.1.2.1.len; omega) (by have := hok.2.2.2.2.2.1.len; omega)) ?_
 rintro _ w ⟨G2, W, rs, AI, AS, hG2, rfl, hW, hK⟩
 have hil : wd.items.length ≤ 1000 := by have := hok.wda.zl; omega
 have hsl : wd.since.length ≤ 1000 := by have := hok.2.2.2.2.2.1.len; omega
 clear hok hW0
 have hGa := hG1.trans hG2
 replace hcode := hcode.mono hGa
 replace hK : K _ _ _ ((rb, row [cva, .int .i64 p1] 98) :: (b2, row [.int .i64 0, .slice none 0 0, .slice none 0 0, .slice none 0 0, .int .i64 0, .slice none 0 0, .slice none 0 0] 30) :: (AI ++ (AS ++ L))) := hK.reo
 refine al hK Ty.i30 rfl ?_
 intro b3 w hK
 refine soS hK Ty.i30 0 rfl rfl rfl rfl (WdO.one hW) rfl ?_
 intro w hK
 refine nl <| thn <| sq <| sq <| rg <| vl mv <| ?_
 refine cl call32 rfl (pickJ_c 1 hK rfl hcode hlen om om om) ?_
 rintro _ w ⟨⟨k8, rfl, hk8, hkn8⟩, hK⟩
 refine nl <| thn <| ?_
 refine ct (σ := View × Wv × Wd × List Rn × Int) (fun s => [(2, .pointer (some ⟨b2, 0, none⟩)), (3, .pointer (some ⟨b3, 0, none⟩))]) (fun s w => VLe G s.1 ∧ WdS s.1 lc s.2.1 s.2.2.1 s.2.2.2.1 ∧ s.2.2.1.items.length ≤ 1000000 ∧ p ≤ s.2.2.2.2 ∧ s.2.2.2.2 ≤ p + 6000 ∧ K e w s.1 ((b3, row (wc s.2.1) 30) :: (rb, row [cva, .int .i64 s.2.2.2.2] 98) :: (b2, row [.int .i64 0, .slice none 0 0, .slice none 0 0, .slice none 0 0, .int .i64 0, .slice none 0 0, .slice none 0 0] 30) :: L)) ?_ ?_
 ·refine bk <| sq <| rg <| ?_
  refine vl (eq rfl rfl) <| vl (aB rfl) <| nl <| thn <| ?_
  refine cdP rfl (fun c0 => ?_) fun c0 => ?_
  ·obtain ⟨G3, hG3, hW, hK⟩ := hW.pubB (B := [_, _, _]) hK
   replace hcode := hcode.mono hG3
   refine rg <| ?_
   refine vl mv <| ?_
   refine cl call75 rfl (l91TimeJ_c 1 hK rfl hcode hlen om om) ?_
   rintro _ w ⟨k12, p12, rfl, hp12, hq12, hK⟩
   refine vl (fa underlying30 rfl Ty.z3 rfl) <| ?_
   refine so hK Ty.i3 rfl 0 rfl rfl rfl rfl rfl ?_
   intro w hK
   refine nl <| bkn <| ctn <| ?_
   exact ⟨(G3, ⟨k12, W.r, W.l, W.i, W.next, W.t, W.s⟩, { wd with now := k12 }, rs, _), ⟨rfl, rfl, trivial⟩, hGa.trans hG3, ⟨rfl, hW.ring, hW.rg, hW.leases, hW.items, hW.next, hW.told, hW.since⟩, by simp only; omega, by simp only; omega, by simp only; omega, hK⟩
  ·refine sq <| rg <| ?_
   refine vl (eq rfl rfl) <| vl (aB rfl) <| nl <| thn <| ?_
   refine cdP rfl (fun c1 => ?_) fun c1 => ?_
   ·obtain ⟨G3, hG3, hW, hK⟩ := hW.pubB (B := [_, _, _]) hK
    replace hcode := hcode.mono hG3
    refine rg <| ?_
    refine vl mv <| ?_
    refine cl call76 rfl (l91Spoilt_c hK.swp hcode hlen om om) ?_
    rintro v17 w ⟨G4, q4, p4, hG4, hr4, hl4, hp4, hq4, hK⟩
    replace hK := hK.swp
    refine vl (fa underlying30 rfl Ty.z23 rfl) <| ?_
    refine so hK Ty.i23 rfl 0 rfl rfl rfl (SlW.one hr4.sl.1) rfl ?_
    intro w hK
    refine nl <| bkn <| ctn <| ?_
    exact ⟨(G4, ⟨W.now, v17, W.l, W.i, W.next, W.t, W.s⟩, { wd with ring := rgl q4 }, q4, p4), ⟨rfl, rfl, trivial⟩, (hGa.trans hG3).trans hG4, ⟨hW.now, hr4, rfl, LeaS.mono hW.leases hG4, hW.items.mono hG4, hW.next, hW.told.mono hG4, hW.since.mono hG4⟩, by simp only; omega, by simp only; omega, by simp only; omega, hK⟩
   ·refine sq <| rg <| ?_
    refine vl (eq rfl rfl) <| vl (aB rfl) <| nl <| thn <| ?_
    refine cdP rfl (fun c2 => ?_) fun c2 => ?_
    ·obtain ⟨G3, hG3, hW, hK⟩ := hW.pubB (B := [_, _, _]) hK
     replace hcode := hcode.mono hG3
     refine rg <| ?_
     refine vl mv <| ?_
     refine cl call77 rfl (l91Leases_c hK.swp hcode hlen om om) ?_
     rintro v22 w ⟨G4, l4, p4, hG4, hr4, hl4, hp4, hq4, hK⟩
     replace hK := hK.swp
     refine vl (fa underlying30 rfl Ty.z24 rfl) <| ?_
     refine so hK Ty.i24 rfl 0 rfl rfl rfl (SlW.one hr4.1) rfl ?_
     intro w hK
     refine nl <| bkn <| ctn <| ?_
     exact ⟨(G4, ⟨W.now, W.r, v22, W.i, W.next, W.t, W.s⟩, { wd with leases := l4 }, rs, p4), ⟨rfl, rfl, trivial⟩, (hGa.trans hG3).trans hG4, ⟨hW.now, hW.ring.mono hG4, hW.rg, hr4, hW.items.mono hG4, hW.next, hW.told.mono hG4, hW.since.mono hG4⟩, by simp only; omega, by simp only; omega, by simp only; omega, hK⟩
    ·refine sq <| rg <| ?_
     refine vl (eq rfl rfl) <| vl (aB rfl) <| nl <| thn <| ?_
     refine cdP rfl (fun c3 => ?_) fun c3 => ?_
     ·skip
      refine rgs (fun w => K e w G2 L) (fun w => K _ w _ _) [U,U,U,U,U,U,U,U,U,U,U,U] 12 Ty.mixed rfl rfl (hK.drawn _) ?_
      intro w hK
      have hS : (fun w => K e w G2 L) w := K.sl hK
      refine xt (i := 0) rfl kr rfl rfl (fun w hK => (fa underlying30 rfl Ty.z25 rfl)) hS <| xt (i := 2) rfl kr rfl rfl (fun w hK => mv) hS <| xt (i := 4) rfl kr rfl rfl (fun w hK => mv) hS <| ?_
      refine xe2 (i := 1) (j := 3) kr rfl rfl rfl rfl ?_ ?_
      ·refine vl (ldO hK Ty.o25 0 rfl rfl rfl) <| ?_
       refine xnk (K.sl hK) fun hS => ?_
       refine xe (i := 3) kr rfl rfl ?_
       refine cl call32 rfl (pickJ_c 1 hK rfl hcode hlen om om om) ?_
       rintro _ w ⟨⟨k29, rfl, hk29, hkn29⟩, hK⟩
       refine xnk (K.sl hK) fun hS => ?_
       refine xe (i := 5) kr rfl rfl ?_
       refine cl call32 rfl (pickJ_c 1 hK rfl hcode hlen om om om) ?_
       rintro _ w ⟨⟨k31, rfl, hk31, hkn31⟩, hK⟩
       refine xnk (K.sl hK) fun hS => ?_
       refine xt (i := 6) rfl kr rfl rfl (fun w hK => (sb rfl rfl)) hS <| ?_
       refine xe (i := 7) kr rfl rfl ?_
       refine vl (bd [(0, _), (1, _)] Ty.p54 Ty.i54 rfl ⟨⟨rfl, rfl⟩, ⟨rfl, rfl⟩, trivial⟩ rfl) <| ?_
       refine xnk (K.sl hK) fun hS => ?_
       refine xe (i := 8) kr rfl rfl ?_
       refine bsS1 hK underlying25 Ty.i54 rfl rfl rfl rfl rfl rfl ?_
       intro b34 w hK
       refine xnk (K.sl hK) fun hS => ?_
       refine xe (i := 9) kr rfl rfl ?_
       replace hK : K e w G2 ((b34, row [.int .i64 k29, .int .i64 (k31 - 1)] 54) :: (b3, row (wc W) 30) :: (rb, row [cva, .int .i64 (p1 + 1 + 1 + 1)] 98) :: (b2, row [.int .i64 0, .slice none 0 0, .slice none 0 0, .slice none 0 0, .int .i64 0, .slice none 0 0, .slice none 0 0] 30) :: (AI ++ (AS ++ L))) := hK
       replace hK : K _ _ _ ((b34, row [.int .i64 k29, .int .i64 (k31 - 1)] 54) :: (AI ++ ((b3, row (wc W) 30) :: (rb, row [cva, .int .i64 (p1 + 1 + 1 + 1)] 98) :: (b2, row [.int .i64 0, .slice none 0 0, .slice none 0 0, .slice none 0 0, .int .i64 0, .slice none 0 0, .slice none 0 0] 30) :: (AS ++ L)))) := hK.reo
       refine apE1x (c := ic) (k := (k29, k31 - 1)) (fun _ => rfl) rfl hK underlying25 Ty.i54 rfl rfl rfl hW.items rfl om fun v1 A1 w ho hK => ?_
       replace hK : K _ _ _ ((b3, row (wc W) 30) :: (rb, row [cva, .int .i64 (p1 + 1 + 1 + 1)] 98) :: (b2, row [.int .i64 0, .slice none 0 0, .slice none 0 0, .slice none 0 0, .int .i64 0, .slice none 0 0, .slice none 0 0] 30) :: (A1 ++ (AS ++ L))) := hK.reo
       refine xnk (K.sl hK) fun hS => ?_
       refine xt (i := 10) rfl kr rfl rfl (fun w hK => (fa underlying30 rfl Ty.z25 rfl)) hS <| ?_
       refine xe (i := 11) kr rfl rfl ?_
       refine so hK Ty.i25 rfl 0 rfl rfl rfl (SlW.one ho.slw) rfl ?_
       intro w hK
       refine xnk (K.sl hK) fun hS => ?_
       refine xd kr <| bkn <| ctn <| ?_
       obtain ⟨G4, hG4, hW4, hK⟩ := WdO.pubB (W := ⟨W.now, W.r, W.l, v1, W.next, W.t, W.s⟩) (wd := { wd with items := wd.items ++ [(k29, k31 - 1)] }) ⟨hW.now, hW.ring, hW.rg, hW.leases, .inl ho, hW.next, hW.told, hW.since⟩ (B := [_, _, _]) hK
       exact ⟨(G4, _, _, rs, _), ⟨rfl, rfl, trivial⟩, hGa.trans hG4, hW4, by simp; omega, by simp only; omega, by simp only; omega, hK⟩
      ·refine cl call32 rfl (pickJ_c 1 hK rfl hcode hlen om om om) ?_
       rintro _ w ⟨⟨k29, rfl, hk29, hkn29⟩, hK⟩
       refine xnk (K.sl hK) fun hS => ?_
       refine xe2 (i := 1) (j := 5) kr rfl rfl rfl rfl ?_ ?_
       ·refine vl (ldO hK Ty.o25 0 rfl rfl rfl) <| ?_
        refine xnk (K.sl hK) fun hS => ?_
        refine xe (i := 5) kr rfl rfl ?_
        refine cl call32 rfl (pickJ_c 1 hK rfl hcode hlen om om om) ?_
        rintro _ w ⟨⟨k31, rfl, hk31, hkn31⟩, hK⟩
        refine xnk (K.sl hK) fun hS => ?_
        refine xt (i := 6) rfl kr rfl rfl (fun w hK => (sb rfl rfl)) hS <| ?_
        refine xe (i := 7) kr rfl rfl ?_
        refine vl (bd [(0, _), (1, _)] Ty.p54 Ty.i54 rfl ⟨⟨rfl, rfl⟩, ⟨rfl, rfl⟩, trivial⟩ rfl) <| ?_
        refine xnk (K.sl hK) fun hS => ?_
        refine xe (i := 8) kr rfl rfl ?_
        refine bsS1 hK underlying25 Ty.i54 rfl rfl rfl rfl rfl rfl ?_
        intro b34 w hK
        refine xnk (K.sl hK) fun hS => ?_
        refine xe (i := 9) kr rfl rfl ?_
        replace hK : K e w G2 ((b34, row [.int .i64 k29, .int .i64 (k31 - 1)] 54) :: (b3, row (wc W) 30) :: (rb, row [cva, .int .i64 (p1 + 1 + 1 + 1)] 98) :: (b2, row [.int .i64 0, .slice none 0 0, .slice none 0 0, .slice none 0 0, .int .i64 0, .slice none 0 0, .slice none 0 0] 30) :: (AI ++ (AS ++ L))) := hK
        replace hK : K _ _ _ ((b34, row [.int .i64 k29, .int .i64 (k31 - 1)] 54) :: (AI ++ ((b3, row (wc W) 30) :: (rb, row [cva, .int .i64 (p1 + 1 + 1 + 1)] 98) :: (b2, row [.int .i64 0, .slice none 0 0, .slice none 0 0, .slice none 0 0, .int .i64 0, .slice none 0 0, .slice none 0 0] 30) :: (AS ++ L)))) := hK.reo
        refine apE1x (c := ic) (k := (k29, k31 - 1)) (fun _ => rfl) rfl hK underlying25 Ty.i54 rfl rfl rfl hW.items rfl om fun v1 A1 w ho hK => ?_
        replace hK : K _ _ _ ((b3, row (wc W) 30) :: (rb, row [cva, .int .i64 (p1 + 1 + 1 + 1)] 98) :: (b2, row [.int .i64 0, .slice none 0 0, .slice none 0 0, .slice none 0 0, .int .i64 0, .slice none 0 0, .slice none 0 0] 30) :: (A1 ++ (AS ++ L))) := hK.reo
        refine xnk (K.sl hK) fun hS => ?_
        refine xt (i := 10) rfl kr rfl rfl (fun w hK => (fa underlying30 rfl Ty.z25 rfl)) hS <| ?_
        refine xe (i := 11) kr rfl rfl ?_
        refine so hK Ty.i25 rfl 0 rfl rfl rfl (SlW.one ho.slw) rfl ?_
        intro w hK
        refine xnk (K.sl hK) fun hS => ?_
        refine xd kr <| bkn <| ctn <| ?_
        obtain ⟨G4, hG4, hW4, hK⟩ := WdO.pubB (W := ⟨W.now, W.r, W.l, v1, W.next, W.t, W.s⟩) (wd := { wd with items := wd.items ++ [(k29, k31 - 1)] }) ⟨hW.now, hW.ring, hW.rg, hW.leases, .inl ho, hW.next, hW.told, hW.since⟩ (B := [_, _, _]) hK
        exact ⟨(G4, _, _, rs, _), ⟨rfl, rfl, trivial⟩, hGa.trans hG4, hW4, by simp; omega, by simp only; omega, by simp only; omega, hK⟩
       ·refine cl call32 rfl (pickJ_c 1 hK rfl hcode hlen om om om) ?_
        rintro _ w ⟨⟨k31, rfl, hk31, hkn31⟩, hK⟩
        refine xnk (K.sl hK) fun hS => ?_
        refine xt (i := 6) rfl kr rfl rfl (fun w hK => (sb rfl rfl)) hS <| ?_
        refine xe2 (i := 1) (j := 7) kr rfl rfl rfl rfl ?_ ?_
        ·refine vl (ldO hK Ty.o25 0 rfl rfl rfl) <| ?_
         refine xnk (K.sl hK) fun hS => ?_
         refine xe (i := 7) kr rfl rfl ?_
         refine vl (bd [(0, _), (1, _)] Ty.p54 Ty.i54 rfl ⟨⟨rfl, rfl⟩, ⟨rfl, rfl⟩, trivial⟩ rfl) <| ?_
         refine xnk (K.sl hK) fun hS => ?_
         refine xe (i := 8) kr rfl rfl ?_
         refine bsS1 hK underlying25 Ty.i54 rfl rfl rfl rfl rfl rfl ?_
         intro b34 w hK
         refine xnk (K.sl hK) fun hS => ?_
         refine xe (i := 9) kr rfl rfl ?_
         replace hK : K e w G2 ((b34, row [.int .i64 k29, .int .i64 (k31 - 1)] 54) :: (b3, row (wc W) 30) :: (rb, row [cva, .int .i64 (p1 + 1 + 1 + 1)] 98) :: (b2, row [.int .i64 0, .slice none 0 0, .slice none 0 0, .slice none 0 0, .int .i64 0, .slice none 0 0, .slice none 0 0] 30) :: (AI ++ (AS ++ L))) := hK
         replace hK : K _ _ _ ((b34, row [.int .i64 k29, .int .i64 (k31 - 1)] 54) :: (AI ++ ((b3, row (wc W) 30) :: (rb, row [cva, .int .i64 (p1 + 1 + 1 + 1)] 98) :: (b2, row [.int .i64 0, .slice none 0 0, .slice none 0 0, .slice none 0 0, .int .i64 0, .slice none 0 0, .slice none 0 0] 30) :: (AS ++ L)))) := hK.reo
         refine apE1x (c := ic) (k := (k29, k31 - 1)) (fun _ => rfl) rfl hK underlying25 Ty.i54 rfl rfl rfl hW.items rfl om fun v1 A1 w ho hK => ?_
         replace hK : K _ _ _ ((b3, row (wc W) 30) :: (rb, row [cva, .int .i64 (p1 + 1 + 1 + 1)] 98) :: (b2, row [.int .i64 0, .slice none 0 0, .slice none 0 0, .slice none 0 0, .int .i64 0, .slice none 0 0, .slice none 0 0] 30) :: (A1 ++ (AS ++ L))) := hK.reo
         refine xnk (K.sl hK) fun hS => ?_
         refine xt (i := 10) rfl kr rfl rfl (fun w hK => (fa underlying30 rfl Ty.z25 rfl)) hS <| ?_
         refine xe (i := 11) kr rfl rfl ?_
         refine so hK Ty.i25 rfl 0 rfl rfl rfl (SlW.one ho.slw) rfl ?_
         intro w hK
         refine xnk (K.sl hK) fun hS => ?_
         refine xd kr <| bkn <| ctn <| ?_
         obtain ⟨G4, hG4, hW4, hK⟩ := WdO.pubB (W := ⟨W.now, W.r, W.l, v1, W.next, W.t, W.s⟩) (wd := { wd with items := wd.items ++ [(k29, k31 - 1)] }) ⟨hW.now, hW.ring, hW.rg, hW.leases, .inl ho, hW.next, hW.told, hW.since⟩ (B := [_, _, _]) hK
         exact ⟨(G4, _, _, rs, _), ⟨rfl, rfl, trivial⟩, hGa.trans hG4, hW4, by simp; omega, by simp only; omega, by simp only; omega, hK⟩
        ·refine vl (bd [(0, _), (1, _)] Ty.p54 Ty.i54 rfl ⟨⟨rfl, rfl⟩, ⟨rfl, rfl⟩, trivial⟩ rfl) <| ?_
         refine xnk (K.sl hK) fun hS => ?_
         refine xe2 (i := 1) (j := 8) kr rfl rfl rfl rfl ?_ ?_
         ·refine vl (ldO hK Ty.o25 0 rfl rfl rfl) <| ?_
          refine xnk (K.sl hK) fun hS => ?_
          refine xe (i := 8) kr rfl rfl ?_
          refine bsS1 hK underlying25 Ty.i54 rfl rfl rfl rfl rfl rfl ?_
          intro b34 w hK
          refine xnk (K.sl hK) fun hS => ?_
          refine xe (i := 9) kr rfl rfl ?_
          replace hK : K e w G2 ((b34, row [.int .i64 k29, .int .i64 (k31 - 1)] 54) :: (b3, row (wc W) 30) :: (rb, row [cva, .int .i64 (p1 + 1 + 1 + 1)] 98) :: (b2, row [.int .i64 0, .slice none 0 0, .slice none 0 0, .slice none 0 0, .int .i64 0, .slice none 0 0, .slice none 0 0] 30) :: (AI ++ (AS ++ L))) := hK
          replace hK : K _ _ _ ((b34, row [.int .i64 k29, .int .i64 (k31 - 1)] 54) :: (AI ++ ((b3, row (wc W) 30) :: (rb, row [cva, .int .i64 (p1 + 1 + 1 + 1)] 98) :: (b2, row [.int .i64 0, .slice none 0 0, .slice none 0 0, .slice none 0 0, .int .i64 0, .slice none 0 0, .slice none 0 0] 30) :: (AS ++ L)))) := hK.reo
          refine apE1x (c := ic) (k := (k29, k31 - 1)) (fun _ => rfl) rfl hK underlying25 Ty.i54 rfl rfl rfl hW.items rfl om fun v1 A1 w ho hK => ?_
          replace hK : K _ _ _ ((b3, row (wc W) 30) :: (rb, row [cva, .int .i64 (p1 + 1 + 1 + 1)] 98) :: (b2, row [.int .i64 0, .slice none 0 0, .slice none 0 0, .slice none 0 0, .int .i64 0, .slice none 0 0, .slice none 0 0] 30) :: (A1 ++ (AS ++ L))) := hK.reo
          refine xnk (K.sl hK) fun hS => ?_
          refine xt (i := 10) rfl kr rfl rfl (fun w hK => (fa underlying30 rfl Ty.z25 rfl)) hS <| ?_
          refine xe (i := 11) kr rfl rfl ?_
          refine so hK Ty.i25 rfl 0 rfl rfl rfl (SlW.one ho.slw) rfl ?_
          intro w hK
          refine xnk (K.sl hK) fun hS => ?_
          refine xd kr <| bkn <| ctn <| ?_
          obtain ⟨G4, hG4, hW4, hK⟩ := WdO.pubB (W := ⟨W.now, W.r, W.l, v1, W.next, W.t, W.s⟩) (wd := { wd with items := wd.items ++ [(k29, k31 - 1)] }) ⟨hW.now, hW.ring, hW.rg, hW.leases, .inl ho, hW.next, hW.told, hW.since⟩ (B := [_, _, _]) hK
          exact ⟨(G4, _, _, rs, _), ⟨rfl, rfl, trivial⟩, hGa.trans hG4, hW4, by simp; omega, by simp only; omega, by simp only; omega, hK⟩
         ·refine bsS1 hK underlying25 Ty.i54 rfl rfl rfl rfl rfl rfl ?_
          intro b34 w hK
          refine xnk (K.sl hK) fun hS => ?_
          refine xe (i := 1) kr rfl rfl ?_
          refine vl (ldO hK Ty.o25 1 rfl rfl rfl) <| ?_
          refine xnk (K.sl hK) fun hS => ?_
          refine xe (i := 9) kr rfl rfl ?_
          replace hK : K e w G2 ((b34, row [.int .i64 k29, .int .i64 (k31 - 1)] 54) :: (b3, row (wc W) 30) :: (rb, row [cva, .int .i64 (p1 + 1 + 1 + 1)] 98) :: (b2, row [.int .i64 0, .slice none 0 0, .slice none 0 0, .slice none 0 0, .int .i64 0, .slice none 0 0, .slice none 0 0] 30) :: (AI ++ (AS ++ L))) := hK
          replace hK : K _ _ _ ((b34, row [.int .i64 k29, .int .i64 (k31 - 1)] 54) :: (AI ++ ((b3, row (wc W) 30) :: (rb, row [cva, .int .i64 (p1 + 1 + 1 + 1)] 98) :: (b2, row [.int .i64 0, .slice none 0 0, .slice none 0 0, .slice none 0 0, .int .i64 0, .slice none 0 0, .slice none 0 0] 30) :: (AS ++ L)))) := hK.reo
          refine apE1x (c := ic) (k := (k29, k31 - 1)) (fun _ => rfl) rfl hK underlying25 Ty.i54 rfl rfl rfl hW.items rfl om fun v1 A1 w ho hK => ?_
          replace hK : K _ _ _ ((b3, row (wc W) 30) :: (rb, row [cva, .int .i64 (p1 + 1 + 1 + 1)] 98) :: (b2, row [.int .i64 0, .slice none 0 0, .slice none 0 0, .slice none 0 0, .int .i64 0, .slice none 0 0, .slice none 0 0] 30) :: (A1 ++ (AS ++ L))) := hK.reo
          refine xnk (K.sl hK) fun hS => ?_
          refine xt (i := 10) rfl kr rfl rfl (fun w hK => (fa underlying30 rfl Ty.z25 rfl)) hS <| ?_
          refine xe (i := 11) kr rfl rfl ?_
          refine so hK Ty.i25 rfl 0 rfl rfl rfl (SlW.one ho.slw) rfl ?_
          intro w hK
          refine xnk (K.sl hK) fun hS => ?_
          refine xd kr <| bkn <| ctn <| ?_
          obtain ⟨G4, hG4, hW4, hK⟩ := WdO.pubB (W := ⟨W.now, W.r, W.l, v1, W.next, W.t, W.s⟩) (wd := { wd with items := wd.items ++ [(k29, k31 - 1)] }) ⟨hW.now, hW.ring, hW.rg, hW.leases, .inl ho, hW.next, hW.told, hW.since⟩ (B := [_, _, _]) hK
          exact ⟨(G4, _, _, rs, _), ⟨rfl, rfl, trivial⟩, hGa.trans hG4, hW4, by simp; omega, by simp only; omega, by simp only; omega, hK⟩
     ·refine sq <| rg <| ?_
      refine vl (eq rfl rfl) <| vl (aB rfl) <| nl <| thn <| ?_
      refine cdP rfl (fun c4 => ?_) fun c4 => ?_
      ·obtain ⟨G3, hG3, hW, hK⟩ := hW.pubB (B := [_, _, _]) hK
       replace hcode := hcode.mono hG3
       refine rg <| ?_
       refine vl mv <| ?_
       refine cl call78 rfl (l92Scan_c hK.swp hcode hlen om om) ?_
       rintro _ w ⟨G4, t4, n4, z4, p4, rfl, hG4, ht4, hl4, _, _, hp4, hq4, hK⟩
       replace hK := hK.swp
       refine vl (fa underlying30 rfl Ty.z28 rfl) <| ?_
       refine soS hK Ty.i28 0 rfl rfl rfl rfl (allc rfl (allc (SlW.one ht4.1) rfl)) rfl ?_
       intro w hK
       refine nl <| bkn <| ctn <| ?_
       exact ⟨(G4, ⟨W.now, W.r, W.l, W.i, n4, t4, W.s⟩, { wd with scan := (n4, z4) }, rs, p4), ⟨rfl, rfl, trivial⟩, (hGa.trans hG3).trans hG4, ⟨hW.now, hW.ring.mono hG4, hW.rg, LeaS.mono hW.leases hG4, hW.items.mono hG4, rfl, ht4, hW.since.mono hG4⟩, by simp only; omega, by simp only; omega, by simp only; omega, hK⟩
      ·refine sq <| rg <| ?_
       refine vl (eq rfl rfl) <| vl (aB rfl) <| nl <| thn <| ?_
       refine cdP rfl (fun c5 => ?_) fun c5 => ?_
       ·skip
        refine rgs (fun w => K e w G2 L) (fun w => K _ w _ _) [U,U,U,U,U,U,U,U] 8 Ty.mixed rfl rfl (hK.drawn _) ?_
        intro w hK
        have hS : (fun w => K e w G2 L) w := K.sl hK
        refine xt (i := 0) rfl kr rfl rfl (fun w hK => (fa underlying30 rfl Ty.z26 rfl)) hS <| xt (i := 2) rfl kr rfl rfl (fun w hK => mv) hS <| ?_
        refine xe2 (i := 1) (j := 3) kr rfl rfl rfl rfl ?_ ?_
        ·refine vl (ldO hK Ty.o26 0 rfl rfl rfl) <| ?_
         refine xnk (K.sl hK) fun hS => ?_
         refine xe (i := 3) kr rfl rfl ?_
         refine cl call32 rfl (pickJ_c 1 hK rfl hcode hlen om om om) ?_
         rintro _ w ⟨⟨k47, rfl, hk47, hkn47⟩, hK⟩
         refine xnk (K.sl hK) fun hS => ?_
         refine xe (i := 4) kr rfl rfl ?_
         refine bsN [.tmp 47] hK underlying26 Ty.i3 rfl rfl rfl rfl rfl rfl rfl rfl ?_
         intro b48 w hK
         refine xnk (K.sl hK) fun hS => ?_
         refine xe (i := 5) kr rfl rfl ?_
         replace hK : K e w G2 ((b48, row [.int .i64 k47] 3) :: (b3, row (wc W) 30) :: (rb, row [cva, .int .i64 (p1 + 1 + 1)] 98) :: (b2, row [.int .i64 0, .slice none 0 0, .slice none 0 0, .slice none 0 0, .int .i64 0, .slice none 0 0, .slice none 0 0] 30) :: (AI ++ (AS ++ L))) := hK
         replace hK : K _ _ _ ((b48, row [.int .i64 k47] 3) :: (AS ++ ((b3, row (wc W) 30) :: (rb, row [cva, .int .i64 (p1 + 1 + 1)] 98) :: (b2, row [.int .i64 0, .slice none 0 0, .slice none 0 0, .slice none 0 0, .int .i64 0, .slice none 0 0, .slice none 0 0] 30) :: (AI ++ L)))) := hK.reo
         refine apE1x (c := fun n => [.int .i64 n]) (k := k47) (fun _ => rfl) rfl hK underlying26 Ty.i3 rfl rfl rfl hW.since rfl om fun v1 A1 w ho hK => ?_
         replace hK : K _ _ _ ((b3, row (wc W) 30) :: (rb, row [cva, .int .i64 (p1 + 1 + 1)] 98) :: (b2, row [.int .i64 0, .slice none 0 0, .slice none 0 0, .slice none 0 0, .int .i64 0, .slice none 0 0, .slice none 0 0] 30) :: (AI ++ (A1 ++ L))) := hK.reo
         refine xnk (K.sl hK) fun hS => ?_
         refine xt (i := 6) rfl kr rfl rfl (fun w hK => (fa underlying30 rfl Ty.z26 rfl)) hS <| ?_
         refine xe (i := 7) kr rfl rfl ?_
         refine so hK Ty.i26 rfl 0 rfl rfl rfl (SlW.one ho.slw) rfl ?_
         intro w hK
         refine xnk (K.sl hK) fun hS => ?_
         refine xd kr <| bkn <| ctn <| ?_
         obtain ⟨G4, hG4, hW4, hK⟩ := WdO.pubB (W := ⟨W.now, W.r, W.l, W.i, W.next, W.t, v1⟩) (wd := { wd with since := wd.since ++ [k47] }) ⟨hW.now, hW.ring, hW.rg, hW.leases, hW.items, hW.next, hW.told, .inl ho⟩ (B := [_, _, _]) hK
         exact ⟨(G4, _, _, rs, _), ⟨rfl, rfl, trivial⟩, hGa.trans hG4, hW4, by simp only; omega, by simp only; omega, by simp only; omega, hK⟩
        ·refine cl call32 rfl (pickJ_c 1 hK rfl hcode hlen om om om) ?_
         rintro _ w ⟨⟨k47, rfl, hk47, hkn47⟩, hK⟩
         refine xnk (K.sl hK) fun hS => ?_
         refine xe2 (i := 1) (j := 4) kr rfl rfl rfl rfl ?_ ?_
         ·refine vl (ldO hK Ty.o26 0 rfl rfl rfl) <| ?_
          refine xnk (K.sl hK) fun hS => ?_
          refine xe (i := 4) kr rfl rfl ?_
          refine bsN [.tmp 47] hK underlying26 Ty.i3 rfl rfl rfl rfl rfl rfl rfl rfl ?_
          intro b48 w hK
          refine xnk (K.sl hK) fun hS => ?_
          refine xe (i := 5) kr rfl rfl ?_
          replace hK : K e w G2 ((b48, row [.int .i64 k47] 3) :: (b3, row (wc W) 30) :: (rb, row [cva, .int .i64 (p1 + 1 + 1)] 98) :: (b2, row [.int .i64 0, .slice none 0 0, .slice none 0 0, .slice none 0 0, .int .i64 0, .slice none 0 0, .slice none 0 0] 30) :: (AI ++ (AS ++ L))) := hK
          replace hK : K _ _ _ ((b48, row [.int .i64 k47] 3) :: (AS ++ ((b3, row (wc W) 30) :: (rb, row [cva, .int .i64 (p1 + 1 + 1)] 98) :: (b2, row [.int .i64 0, .slice none 0 0, .slice none 0 0, .slice none 0 0, .int .i64 0, .slice none 0 0, .slice none 0 0] 30) :: (AI ++ L)))) := hK.reo
          refine apE1x (c := fun n => [.int .i64 n]) (k := k47) (fun _ => rfl) rfl hK underlying26 Ty.i3 rfl rfl rfl hW.since rfl om fun v1 A1 w ho hK => ?_
          replace hK : K _ _ _ ((b3, row (wc W) 30) :: (rb, row [cva, .int .i64 (p1 + 1 + 1)] 98) :: (b2, row [.int .i64 0, .slice none 0 0, .slice none 0 0, .slice none 0 0, .int .i64 0, .slice none 0 0, .slice none 0 0] 30) :: (AI ++ (A1 ++ L))) := hK.reo
          refine xnk (K.sl hK) fun hS => ?_
          refine xt (i := 6) rfl kr rfl rfl (fun w hK => (fa underlying30 rfl Ty.z26 rfl)) hS <| ?_
          refine xe (i := 7) kr rfl rfl ?_
          refine so hK Ty.i26 rfl 0 rfl rfl rfl (SlW.one ho.slw) rfl ?_
          intro w hK
          refine xnk (K.sl hK) fun hS => ?_
          refine xd kr <| bkn <| ctn <| ?_
          obtain ⟨G4, hG4, hW4, hK⟩ := WdO.pubB (W := ⟨W.now, W.r, W.l, W.i, W.next, W.t, v1⟩) (wd := { wd with since := wd.since ++ [k47] }) ⟨hW.now, hW.ring, hW.rg, hW.leases, hW.items, hW.next, hW.told, .inl ho⟩ (B := [_, _, _]) hK
          exact ⟨(G4, _, _, rs, _), ⟨rfl, rfl, trivial⟩, hGa.trans hG4, hW4, by simp only; omega, by simp only; omega, by simp only; omega, hK⟩
         ·refine bsN [.tmp 47] hK underlying26 Ty.i3 rfl rfl rfl rfl rfl rfl rfl rfl ?_
          intro b48 w hK
          refine xnk (K.sl hK) fun hS => ?_
          refine xe (i := 1) kr rfl rfl ?_
          refine vl (ldO hK Ty.o26 1 rfl rfl rfl) <| ?_
          refine xnk (K.sl hK) fun hS => ?_
          refine xe (i := 5) kr rfl rfl ?_
          replace hK : K e w G2 ((b48, row [.int .i64 k47] 3) :: (b3, row (wc W) 30) :: (rb, row [cva, .int .i64 (p1 + 1 + 1)] 98) :: (b2, row [.int .i64 0, .slice none 0 0, .slice none 0 0, .slice none 0 0, .int .i64 0, .slice none 0 0, .slice none 0 0] 30) :: (AI ++ (AS ++ L))) := hK
          replace hK : K _ _ _ ((b48, row [.int .i64 k47] 3) :: (AS ++ ((b3, row (wc W) 30) :: (rb, row [cva, .int .i64 (p1 + 1 + 1)] 98) :: (b2, row [.int .i64 0, .slice none 0 0, .slice none 0 0, .slice none 0 0, .int .i64 0, .slice none 0 0, .slice none 0 0] 30) :: (AI ++ L)))) := hK.reo
          refine apE1x (c := fun n => [.int .i64 n]) (k := k47) (fun _ => rfl) rfl hK underlying26 Ty.i3 rfl rfl rfl hW.since rfl om fun v1 A1 w ho hK => ?_
          replace hK : K _ _ _ ((b3, row (wc W) 30) :: (rb, row [cva, .int .i64 (p1 + 1 + 1)] 98) :: (b2, row [.int .i64 0, .slice none 0 0, .slice none 0 0, .slice none 0 0, .int .i64 0, .slice none 0 0, .slice none 0 0] 30) :: (AI ++ (A1 ++ L))) := hK.reo
          refine xnk (K.sl hK) fun hS => ?_
          refine xt (i := 6) rfl kr rfl rfl (fun w hK => (fa underlying30 rfl Ty.z26 rfl)) hS <| ?_
          refine xe (i := 7) kr rfl rfl ?_
          refine so hK Ty.i26 rfl 0 rfl rfl rfl (SlW.one ho.slw) rfl ?_
          intro w hK
          refine xnk (K.sl hK) fun hS => ?_
          refine xd kr <| bkn <| ctn <| ?_
          obtain ⟨G4, hG4, hW4, hK⟩ := WdO.pubB (W := ⟨W.now, W.r, W.l, W.i, W.next, W.t, v1⟩) (wd := { wd with since := wd.since ++ [k47] }) ⟨hW.now, hW.ring, hW.rg, hW.leases, hW.items, hW.next, hW.told, .inl ho⟩ (B := [_, _, _]) hK
          exact ⟨(G4, _, _, rs, _), ⟨rfl, rfl, trivial⟩, hGa.trans hG4, hW4, by simp only; omega, by simp only; omega, by simp only; omega, hK⟩
       ·refine sq <| rg <| ?_
        refine vl (eq rfl rfl) <| vl (aB rfl) <| nl <| thn <| ?_
        refine cdP rfl (fun c6 => ?_) fun c6 => ?_
        ·obtain ⟨G3, hG3, hW, hK⟩ := hW.pubB (B := [_, _, _]) hK
         have hi := hW.items
         refine sq <| rg <| ?_
         refine vl (fa underlying30 rfl Ty.z25 rfl) <| vl (ldO hK Ty.o25 0 rfl rfl rfl) <| vl (ln underlying25 rfl hi.len) <| vl (gt rfl rfl) <| nl <| thn <| ?_
         refine cdP rfl (fun d0 => ?_) fun d0 => ?_
         ·refine rg <| ?_
          refine vl (fa underlying30 rfl Ty.z25 rfl) <| vl (ldO hK Ty.o25 0 rfl rfl rfl) <| ?_
          have hj := hi.slc (l := 1) (h := wd.items.length) (by omega) (Nat.le_refl _)
          refine vl (slLo (l := 1) underlying25 Ty.s54 rfl hi.1 rfl om) <| vl (fa underlying30 rfl Ty.z25 rfl) <| ?_
          refine so hK Ty.i25 rfl 0 rfl rfl rfl (SlW.one hj.1) rfl ?_
          intro w hK
          refine nl <| bkn <| ctn <| ?_
          exact ⟨(G3, ⟨W.now, W.r, W.l, slc W.i 1 wd.items.length 2, W.next, W.t, W.s⟩, { wd with items := (wd.items.take wd.items.length).drop 1 }, rs, _), ⟨rfl, rfl, trivial⟩, hGa.trans hG3, ⟨hW.now, hW.ring, hW.rg, hW.leases, hj, hW.next, hW.told, hW.since⟩, by simp; omega, by simp only; omega, by simp only; omega, hK⟩
         ·refine sk <| bkn <| ctn <| ?_
          exact ⟨(G3, W, wd, rs, _), ⟨rfl, rfl, trivial⟩, hGa.trans hG3, hW, by simp only; omega, by simp only; omega, by simp only; omega, hK⟩
        ·obtain ⟨G3, hG3, hW, hK⟩ := hW.pubB (B := [_, _, _]) hK
         refine sk <| bkn <| ctn <| ?_
         exact ⟨(G3, W, wd, rs, _), ⟨rfl, rfl, trivial⟩, hGa.trans hG3, hW, by simp only; omega, by simp only; omega, by simp only; omega, hK⟩
 ·rintro ⟨G3, W3, wd3, rs3, p3⟩ g w ⟨hG3, hW3, hil3, hp3, hq3, hK⟩
  simp only at hG3 hW3 hil3 hp3 hq3 hK
  refine thn <| sq <| rg <| ?_
  refine vl (lsO hK Ty.a30 Ty.s30 0 rfl rfl rfl) <| ?_
  refine soS hK Ty.i30 2 rfl rfl rfl rfl (WdS.one hW3) rfl ?_
  intro w hK
  refine nl <| thn <| rt <| pg1r (rvS hK Ty.a30 Ty.s30 2 rfl rfl rfl) <| ?_
  exact ⟨G3, W3, wd3, rs3, p3, hG3, rfl, hW3, hil3, hp3, hq3, hK.drop1.swp.drop1⟩
end
open Go Go.Ro Tryz
section
variable {e w : World} {G : View} {L A : Own} {v u cva : Value} {xs ys code : List Int} {ls ms : List Ls} {rs qs : List Rn} {zs ts : List It} {W W' : Wv} {wd wd' : Wd} {a b c k kd id other p : Int} {i j bk o rb : Nat}
end
end Go.Proofs.YtmfolinemnlnbaaGreatDoor