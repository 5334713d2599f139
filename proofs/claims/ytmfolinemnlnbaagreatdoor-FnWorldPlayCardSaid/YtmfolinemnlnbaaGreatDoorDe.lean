/- Contracts of the functions that draw events. Conditions: those that each row states. -/
import Derived.Test.YtmfolinemnlnbaaGreatDoorWd5
import Derived.Test.YtmfolinemnlnbaaGreatDoorDw
namespace Go.Proofs.YtmfolinemnlnbaaGreatDoor
open Go Go.Ro Tryz
section
variable {e w : World} {G : View} {L A : Own} {v u cva : Value} {code xs ys : List Int} {rs qs : List Rn} {W W' : Wv} {wd wd' : Wd} {a b c k kd p : Int} {rb : Nat}
set_option maxHeartbeats 4000000 in
theorem l92Event_c (hK : K e w G ((rb, row [cva, .int .i64 p] 98) :: L)) (hcode : BytS G cva code) (hlen : code.length ≤ 2000) (h0 : 0 ≤ p) (h1 : p ≤ 800000000) (hW : WdS G lc W wd rs) (hok : WdOk wd) :
  Ret prog 31 #[.pointer (some ⟨rb, 0, none⟩), .agg (wc W).toArray] w (fun r w' => ∃ kd a b c p', r = .agg (ec kd a b c).toArray ∧ p ≤ p' ∧ p' ≤ p + 40 ∧ K e w' G ((rb, row [cva, .int .i64 p'] 98) :: L)) := by
 have hs := hW.ring.sl
 have hit := hW.items
 have hrok : RgOk (rgl rs) := by rw [hW.rg]; exact hok.2.1.1
 have hlen10 := len_of hrok
 have hlt : 0 < wd.leases.length := by have := hok.2.2.1.1; omega
 have hpt : ∀ i : Nat, (h : i < rs.length) → Pt rs[i].1 := fun i h => (rgOk_at hrok h).1
 refine enterG1 (args := [.pointer (some ⟨rb, 0, none⟩), .agg (wc W).toArray]) func31 rfl rfl rfl rfl ?_
 refine sq <| rg <| ?_
 refine bx hK rfl rfl ?_
 intro b3 w hK
 refine al hK Ty.i32 rfl ?_
 intro b4 w hK
 refine nl <| thn <| sq <| rg <| vl (fa underlying30 rfl Ty.z23 rfl) <| vl (ldO hK Ty.o23 1 rfl rfl rfl) <| vl (ln underlying23 rfl hs.len) <| vl (mx rfl rfl) <| vl (aI rfl) <| nl <| thn <| sq <| rg <| vl (aI rfl) <| nl <| thn <| ?_
 refine sq <| rg <| vl (aI rfl) <| nl <| thn <| sq <| sq <| rg <| vl (fa underlying30 rfl Ty.z23 rfl) <| vl (ldO hK Ty.o23 1 rfl rfl rfl) <| vl (ln underlying23 rfl hs.len) <| vl (gt rfl rfl) <| nl <| thn <| ?_
 refine ct (σ := Int × Int × Int) (fun s => [(0, .pointer (some ⟨rb, 0, none⟩)), (3, .pointer (some ⟨b3, 0, none⟩)), (4, .pointer (some ⟨b4, 0, none⟩)), (6, .int .i64 s.1), (7, .int .i64 s.2.1)]) (fun s w => (0 ≤ s.1 ∧ s.1 ≤ 63) ∧ (p ≤ s.2.2 ∧ s.2.2 ≤ p + 2) ∧ K e w G ((b4, row (ec 0 0 0 0) 32) :: (b3, row (wc W) 30) :: (rb, row [cva, .int .i64 s.2.2] 98) :: L)) ?_ ?_
 ·skip
  refine cdP rfl (fun c1 => ?_) fun c1 => ?_
  ·refine sq <| ?_
   refine rgs (fun w => K e w G ((b3, row (wc W) 30) :: L)) (fun w => K _ w _ _) [U,U,U,U,U,U,U,U,U] 9 Ty.mixed rfl rfl (hK.drawn _) ?_
   intro w hK
   have hS : (fun w => K e w G ((b3, row (wc W) 30) :: L)) w := K.sl hK
   refine xt (i := 0) rfl kr rfl rfl (fun w hK => (fa underlying30 rfl Ty.z23 rfl)) hS <| xt (i := 1) rfl kr rfl rfl (fun w hK => (ldO hK Ty.o23 0 rfl rfl rfl)) hS <| xt (i := 2) rfl kr rfl rfl (fun w hK => mv) hS <| xt (i := 3) rfl kr rfl rfl (fun w hK => (mI rfl)) hS <| ?_
   refine xe (i := 4) kr rfl rfl ?_
   refine cl call32 rfl (pickJ_c (rb := rb) 2 hK rfl hcode hlen om om om) ?_
   rintro _ w ⟨⟨k21, rfl, r1, r2⟩, hK⟩
   obtain ⟨m1, rfl⟩ : ∃ m : Nat, k21 = m := ⟨k21.toNat, by omega⟩
   have hp1 := hpt m1 (by omega)
   refine xnk (K.sl hK) fun hS => ?_
   refine xt (i := 5) rfl kr rfl rfl (fun w hK => (ixm (m := m1) underlying23 Ty.s40 rfl hs.1 rfl om om)) hS <| xt (i := 6) rfl kr rfl rfl (fun w hK => (fe underlying40 rfl Ty.z3 rfl hs.1 om)) hS <| xt (i := 7) rfl kr rfl rfl (fun w hK => (ldV hK Ty.o3 rfl (by exact hs.cell om 0 rfl))) hS <| xt (i := 8) rfl kr rfl rfl (fun w hK => (aI rfl)) hS <| xd kr <| thn <| ?_
   refine rgs (fun w => K e w G ((b3, row (wc W) 30) :: L)) (fun w => K _ w _ _) [U,U,U,U,U,U,U,U,U] 9 Ty.mixed rfl rfl (hK.drawn _) ?_
   intro w hK
   have hS : (fun w => K e w G ((b3, row (wc W) 30) :: L)) w := K.sl hK
   refine xt (i := 0) rfl kr rfl rfl (fun w hK => (fa underlying30 rfl Ty.z23 rfl)) hS <| xt (i := 1) rfl kr rfl rfl (fun w hK => (ldO hK Ty.o23 0 rfl rfl rfl)) hS <| xt (i := 2) rfl kr rfl rfl (fun w hK => mv) hS <| xt (i := 3) rfl kr rfl rfl (fun w hK => (mI rfl)) hS <| ?_
   refine xe (i := 4) kr rfl rfl ?_
   refine cl call32 rfl (pickJ_c (rb := rb) 2 hK rfl hcode hlen om om om) ?_
   rintro _ w ⟨⟨k29, rfl, r3, r4⟩, hK⟩
   obtain ⟨m2, rfl⟩ : ∃ m : Nat, k29 = m := ⟨k29.toNat, by omega⟩
   refine xnk (K.sl hK) fun hS => ?_
   refine xt (i := 5) rfl kr rfl rfl (fun w hK => (ixm (m := m2) underlying23 Ty.s40 rfl hs.1 rfl om om)) hS <| xt (i := 6) rfl kr rfl rfl (fun w hK => (fe underlying40 rfl Ty.z3 rfl hs.1 om)) hS <| xt (i := 7) rfl kr rfl rfl (fun w hK => (ldV hK Ty.o3 rfl (by exact hs.cell om 0 rfl))) hS <| xt (i := 8) rfl kr rfl rfl (fun w hK => (aI rfl)) hS <| xd kr <| ctn <| ?_
   exact ⟨(rs[m1].1, rs[m2].1, p + 1 + 1), ⟨rfl, rfl, rfl, rfl, rfl, trivial⟩, hp1, by simp only; omega, hK⟩
  ·refine sk <| ctn <| ?_
   exact ⟨(0, 0, p), ⟨rfl, rfl, rfl, rfl, rfl, trivial⟩, by simp only; omega, by simp only; omega, hK⟩
 ·rintro ⟨id, ot, q⟩ g w ⟨⟨i1, i2⟩, ⟨q1, q2⟩, hK⟩
  simp only at i1 i2 q1 q2 hK
  refine thn <| sq <| rg <| ?_
  refine vl (mI rfl) <| vl (mI rfl) <| vl (bd [(1, _), (2, _)] Ty.p32 Ty.i32 rfl ⟨⟨rfl, rfl⟩, ⟨rfl, rfl⟩, trivial⟩ rfl) <| ?_
  refine al hK Ty.i32 rfl ?_
  intro b8 w hK
  refine soS hK Ty.i32 0 rfl rfl rfl rfl rfl rfl ?_
  intro w hK
  refine nl <| thn <| sq <| sq <| rg <| vl mv <| ?_
  refine cl call32 rfl (pickJ_c 3 hK rfl hcode hlen om om om) ?_
  rintro _ w ⟨⟨k37, rfl, hk37, hkn37⟩, hK⟩
  refine nl <| thn <| ?_
  refine ct (σ := Int × Int × Int × Int × Int) (fun s => [(0, .pointer (some ⟨rb, 0, none⟩)), (4, .pointer (some ⟨b4, 0, none⟩)), (8, .pointer (some ⟨b8, 0, none⟩))]) (fun s w => (p ≤ s.2.2.2.2 ∧ s.2.2.2.2 ≤ p + 20) ∧ K e w G ((b8, row (ec s.1 s.2.1 s.2.2.1 s.2.2.2.1) 32) :: (b4, row (ec 0 0 0 0) 32) :: (b3, row (wc W) 30) :: (rb, row [cva, .int .i64 s.2.2.2.2] 98) :: L)) ?_ ?_
  ·refine bk <| sq <| sq <| rg <| ?_
   refine vl (eq rfl rfl) <| vl (aB rfl) <| nl <| thn <| ?_
   refine cdP rfl (fun c0 => ?_) fun c0 => ?_
   ·refine sk <| thn <| ?_
    refine cdP rfl (fun d0 => ?_) fun d0 => ?_
    ·refine sq <| rg <| ?_
     refine vl (fa underlying32 rfl Ty.z3 rfl) <| ?_
     refine so hK Ty.i3 rfl 0 rfl rfl rfl rfl rfl ?_
     intro w hK
     refine nl <| thn <| sq <| rg <| vl (mI rfl) <| vl (ad rfl rfl) <| vl mv <| ?_
     refine cl call32 rfl (pickJ_c 3 hK rfl hcode hlen om om om) ?_
     rintro _ w ⟨⟨k46, rfl, hk46, hkn46⟩, hK⟩
     refine vl (ad rfl rfl) <| vl (rm rfl rfl) <| vl (fa underlying32 rfl Ty.z3 rfl) <| ?_
     refine so hK Ty.i3 rfl 0 rfl rfl rfl rfl rfl ?_
     intro w hK
     refine nl <| thn <| rg <| vl (mI rfl) <| vl (fa underlying32 rfl Ty.z3 rfl) <| ?_
     refine so hK Ty.i3 rfl 0 rfl rfl rfl rfl rfl ?_
     intro w hK
     refine nl <| bkn <| ctn <| ?_
     exact ⟨(1, (id + 1 + k46) % 64, id, 0, _), ⟨rfl, rfl, rfl, trivial⟩, ⟨by simp only; omega, by simp only; omega⟩, hK⟩
    ·exact absurd c0 d0
   ·refine rg <| ?_
    refine vl (eq rfl rfl) <| vl (aB rfl) <| nl <| thn <| ?_
    refine cdP rfl (fun c1 => ?_) fun c1 => ?_
    ·refine sq <| rg <| ?_
     refine vl (fa underlying32 rfl Ty.z3 rfl) <| ?_
     refine so hK Ty.i3 rfl 0 rfl rfl rfl rfl rfl ?_
     intro w hK
     refine nl <| thn <| sq <| rg <| vl (mI rfl) <| vl (ad rfl rfl) <| vl mv <| ?_
     refine cl call32 rfl (pickJ_c 3 hK rfl hcode hlen om om om) ?_
     rintro _ w ⟨⟨k46, rfl, hk46, hkn46⟩, hK⟩
     refine vl (ad rfl rfl) <| vl (rm rfl rfl) <| vl (fa underlying32 rfl Ty.z3 rfl) <| ?_
     refine so hK Ty.i3 rfl 0 rfl rfl rfl rfl rfl ?_
     intro w hK
     refine nl <| thn <| rg <| vl (mI rfl) <| vl (fa underlying32 rfl Ty.z3 rfl) <| ?_
     refine so hK Ty.i3 rfl 0 rfl rfl rfl rfl rfl ?_
     intro w hK
     refine nl <| bkn <| ctn <| ?_
     exact ⟨(1, (id + 1 + k46) % 64, id, 0, _), ⟨rfl, rfl, rfl, trivial⟩, ⟨by simp only; omega, by simp only; omega⟩, hK⟩
    ·refine sq <| sq <| rg <| ?_
     refine vl (eq rfl rfl) <| vl (aB rfl) <| nl <| thn <| ?_
     refine cdP rfl (fun c2 => ?_) fun c2 => ?_
     ·refine sk <| thn <| ?_
      refine cdP rfl (fun d2 => ?_) fun d2 => ?_
      ·refine rg <| ?_
       refine vl (fa underlying32 rfl Ty.z3 rfl) <| ?_
       refine so hK Ty.i3 rfl 0 rfl rfl rfl rfl rfl ?_
       intro w hK
       refine nl <| bkn <| ctn <| ?_
       exact ⟨(2, _, _, _, _), ⟨rfl, rfl, rfl, trivial⟩, ⟨by simp only; omega, by simp only; omega⟩, hK⟩
      ·exact absurd c2 d2
     ·refine rg <| ?_
      refine vl (eq rfl rfl) <| vl (aB rfl) <| nl <| thn <| ?_
      refine cdP rfl (fun c3 => ?_) fun c3 => ?_
      ·refine rg <| ?_
       refine vl (fa underlying32 rfl Ty.z3 rfl) <| ?_
       refine so hK Ty.i3 rfl 0 rfl rfl rfl rfl rfl ?_
       intro w hK
       refine nl <| bkn <| ctn <| ?_
       exact ⟨(2, _, _, _, _), ⟨rfl, rfl, rfl, trivial⟩, ⟨by simp only; omega, by simp only; omega⟩, hK⟩
      ·refine sq <| rg <| ?_
       refine vl (eq rfl rfl) <| vl (aB rfl) <| nl <| thn <| ?_
       refine cdP rfl (fun c4 => ?_) fun c4 => ?_
       ·refine rg <| ?_
        refine vl (fa underlying32 rfl Ty.z3 rfl) <| ?_
        refine so hK Ty.i3 rfl 0 rfl rfl rfl rfl rfl ?_
        intro w hK
        refine nl <| bkn <| ctn <| ?_
        exact ⟨(3, _, _, _, _), ⟨rfl, rfl, rfl, trivial⟩, ⟨by simp only; omega, by simp only; omega⟩, hK⟩
       ·refine sq <| sq <| rg <| ?_
        refine vl (eq rfl rfl) <| vl (aB rfl) <| nl <| thn <| ?_
        refine cdP rfl (fun c5 => ?_) fun c5 => ?_
        ·refine sk <| thn <| ?_
         refine cdP rfl (fun d5 => ?_) fun d5 => ?_
         ·refine rg <| ?_
          refine vl (fa underlying32 rfl Ty.z3 rfl) <| ?_
          refine so hK Ty.i3 rfl 0 rfl rfl rfl rfl rfl ?_
          intro w hK
          refine nl <| bkn <| ctn <| ?_
          exact ⟨(4, _, _, _, _), ⟨rfl, rfl, rfl, trivial⟩, ⟨by simp only; omega, by simp only; omega⟩, hK⟩
         ·exact absurd c5 d5
        ·refine rg <| ?_
         refine vl (eq rfl rfl) <| vl (aB rfl) <| nl <| thn <| ?_
         refine cdP rfl (fun c6 => ?_) fun c6 => ?_
         ·refine rg <| ?_
          refine vl (fa underlying32 rfl Ty.z3 rfl) <| ?_
          refine so hK Ty.i3 rfl 0 rfl rfl rfl rfl rfl ?_
          intro w hK
          refine nl <| bkn <| ctn <| ?_
          exact ⟨(4, _, _, _, _), ⟨rfl, rfl, rfl, trivial⟩, ⟨by simp only; omega, by simp only; omega⟩, hK⟩
         ·refine sq <| rg <| ?_
          refine vl (eq rfl rfl) <| vl (aB rfl) <| nl <| thn <| ?_
          refine cdP rfl (fun c7 => ?_) fun c7 => ?_
          ·refine rg <| ?_
           refine vl (fa underlying32 rfl Ty.z3 rfl) <| ?_
           refine so hK Ty.i3 rfl 0 rfl rfl rfl rfl rfl ?_
           intro w hK
           refine nl <| bkn <| ctn <| ?_
           exact ⟨(5, _, _, _, _), ⟨rfl, rfl, rfl, trivial⟩, ⟨by simp only; omega, by simp only; omega⟩, hK⟩
          ·refine sq <| rg <| ?_
           refine vl (eq rfl rfl) <| vl (aB rfl) <| nl <| thn <| ?_
           refine cdP rfl (fun c8 => ?_) fun c8 => ?_
           ·refine rg <| ?_
            refine vl (fa underlying32 rfl Ty.z3 rfl) <| ?_
            refine so hK Ty.i3 rfl 0 rfl rfl rfl rfl rfl ?_
            intro w hK
            refine nl <| bkn <| ctn <| ?_
            exact ⟨(6, _, _, _, _), ⟨rfl, rfl, rfl, trivial⟩, ⟨by simp only; omega, by simp only; omega⟩, hK⟩
           ·refine sq <| sq <| rg <| ?_
            refine vl (eq rfl rfl) <| vl (aB rfl) <| nl <| thn <| ?_
            refine cdP rfl (fun c9 => ?_) fun c9 => ?_
            ·refine sk <| thn <| ?_
             refine cdP rfl (fun d9 => ?_) fun d9 => ?_
             ·refine sq <| rg <| ?_
              refine vl (fa underlying32 rfl Ty.z3 rfl) <| ?_
              refine so hK Ty.i3 rfl 0 rfl rfl rfl rfl rfl ?_
              intro w hK
              refine nl <| thn <| sq <| rg <| vl mv <| ?_
              refine cl call32 rfl (pickJ_c 3 hK rfl hcode hlen om om om) ?_
              rintro _ w ⟨⟨k74, rfl, hk74, hkn74⟩, hK⟩
              refine vl (fa underlying32 rfl Ty.z3 rfl) <| ?_
              refine so hK Ty.i3 rfl 0 rfl rfl rfl rfl rfl ?_
              intro w hK
              refine nl <| thn <| sq <| rg <| vl (lsO hK Ty.a30 Ty.s30 2 rfl rfl rfl) <| vl (fa underlying32 rfl Ty.z3 rfl) <| vl (ldO hK Ty.o3 0 rfl rfl rfl) <| ?_
              refine cl call73 rfl (l51Owner_c (k := k74) hK hW hlt) ?_
              rintro _ w ⟨rfl, hK⟩
              refine vl (mx rfl rfl) <| vl (fa underlying32 rfl Ty.z3 rfl) <| ?_
              refine so hK Ty.i3 rfl 0 rfl rfl rfl rfl rfl ?_
              intro w hK
              refine nl <| thn <| rg <| vl (mI rfl) <| vl (fa underlying32 rfl Ty.z3 rfl) <| ?_
              refine so hK Ty.i3 rfl 0 rfl rfl rfl rfl rfl ?_
              intro w hK
              refine nl <| bkn <| ctn <| ?_
              exact ⟨(7, max (own wd k74) 0, k74, ot, q + 1 + 1), ⟨rfl, rfl, rfl, trivial⟩, ⟨by simp only; omega, by simp only; omega⟩, hK⟩
             ·exact absurd c9 d9
            ·refine rg <| ?_
             refine vl (eq rfl rfl) <| vl (aB rfl) <| nl <| thn <| ?_
             refine cdP rfl (fun c10 => ?_) fun c10 => ?_
             ·refine sq <| rg <| ?_
              refine vl (fa underlying32 rfl Ty.z3 rfl) <| ?_
              refine so hK Ty.i3 rfl 0 rfl rfl rfl rfl rfl ?_
              intro w hK
              refine nl <| thn <| sq <| rg <| vl mv <| ?_
              refine cl call32 rfl (pickJ_c 3 hK rfl hcode hlen om om om) ?_
              rintro _ w ⟨⟨k74, rfl, hk74, hkn74⟩, hK⟩
              refine vl (fa underlying32 rfl Ty.z3 rfl) <| ?_
              refine so hK Ty.i3 rfl 0 rfl rfl rfl rfl rfl ?_
              intro w hK
              refine nl <| thn <| sq <| rg <| vl (lsO hK Ty.a30 Ty.s30 2 rfl rfl rfl) <| vl (fa underlying32 rfl Ty.z3 rfl) <| vl (ldO hK Ty.o3 0 rfl rfl rfl) <| ?_
              refine cl call73 rfl (l51Owner_c (k := k74) hK hW hlt) ?_
              rintro _ w ⟨rfl, hK⟩
              refine vl (mx rfl rfl) <| vl (fa underlying32 rfl Ty.z3 rfl) <| ?_
              refine so hK Ty.i3 rfl 0 rfl rfl rfl rfl rfl ?_
              intro w hK
              refine nl <| thn <| rg <| vl (mI rfl) <| vl (fa underlying32 rfl Ty.z3 rfl) <| ?_
              refine so hK Ty.i3 rfl 0 rfl rfl rfl rfl rfl ?_
              intro w hK
              refine nl <| bkn <| ctn <| ?_
              exact ⟨(7, max (own wd k74) 0, k74, ot, q + 1 + 1), ⟨rfl, rfl, rfl, trivial⟩, ⟨by simp only; omega, by simp only; omega⟩, hK⟩
             ·refine sq <| rg <| ?_
              refine vl (eq rfl rfl) <| vl (aB rfl) <| nl <| thn <| ?_
              refine cdP rfl (fun c11 => ?_) fun c11 => ?_
              ·refine sq <| rg <| ?_
               refine vl (fa underlying32 rfl Ty.z3 rfl) <| ?_
               refine so hK Ty.i3 rfl 0 rfl rfl rfl rfl rfl ?_
               intro w hK
               refine nl <| thn <| rg <| vl mv <| ?_
               refine cl call32 rfl (pickJ_c 3 hK rfl hcode hlen om om om) ?_
               rintro _ w ⟨⟨k88, rfl, hk88, hkn88⟩, hK⟩
               refine vl (fa underlying32 rfl Ty.z3 rfl) <| ?_
               refine so hK Ty.i3 rfl 0 rfl rfl rfl rfl rfl ?_
               intro w hK
               refine nl <| bkn <| ctn <| ?_
               exact ⟨(8, _, _, _, _), ⟨rfl, rfl, rfl, trivial⟩, ⟨by simp only; omega, by simp only; omega⟩, hK⟩
              ·refine sq <| rg <| ?_
               refine vl (eq rfl rfl) <| vl (aB rfl) <| nl <| thn <| ?_
               refine cdP rfl (fun c12 => ?_) fun c12 => ?_
               ·refine rg <| ?_
                refine vl (fa underlying32 rfl Ty.z3 rfl) <| ?_
                refine so hK Ty.i3 rfl 0 rfl rfl rfl rfl rfl ?_
                intro w hK
                refine nl <| bkn <| ctn <| ?_
                exact ⟨(9, _, _, _, _), ⟨rfl, rfl, rfl, trivial⟩, ⟨by simp only; omega, by simp only; omega⟩, hK⟩
               ·refine sq <| sq <| rg <| ?_
                refine vl (eq rfl rfl) <| vl (aB rfl) <| nl <| thn <| ?_
                refine cdP rfl (fun c13 => ?_) fun c13 => ?_
                ·refine sk <| thn <| ?_
                 refine cdP rfl (fun d13 => ?_) fun d13 => ?_
                 ·refine rg <| ?_
                  refine vl (fa underlying32 rfl Ty.z3 rfl) <| ?_
                  refine so hK Ty.i3 rfl 0 rfl rfl rfl rfl rfl ?_
                  intro w hK
                  refine nl <| bkn <| ctn <| ?_
                  exact ⟨(10, _, _, _, _), ⟨rfl, rfl, rfl, trivial⟩, ⟨by simp only; omega, by simp only; omega⟩, hK⟩
                 ·exact absurd c13 d13
                ·refine rg <| ?_
                 refine vl (eq rfl rfl) <| vl (aB rfl) <| nl <| thn <| ?_
                 refine cdP rfl (fun c14 => ?_) fun c14 => ?_
                 ·refine rg <| ?_
                  refine vl (fa underlying32 rfl Ty.z3 rfl) <| ?_
                  refine so hK Ty.i3 rfl 0 rfl rfl rfl rfl rfl ?_
                  intro w hK
                  refine nl <| bkn <| ctn <| ?_
                  exact ⟨(10, _, _, _, _), ⟨rfl, rfl, rfl, trivial⟩, ⟨by simp only; omega, by simp only; omega⟩, hK⟩
                 ·refine sq <| sq <| rg <| ?_
                  refine vl (eq rfl rfl) <| vl (aB rfl) <| nl <| thn <| ?_
                  refine cdP rfl (fun c15 => ?_) fun c15 => ?_
                  ·refine sk <| thn <| ?_
                   refine cdP rfl (fun d15 => ?_) fun d15 => ?_
                   ·refine sq <| rg <| ?_
                    refine vl (fa underlying32 rfl Ty.z3 rfl) <| ?_
                    refine so hK Ty.i3 rfl 0 rfl rfl rfl rfl rfl ?_
                    intro w hK
                    refine nl <| thn <| sq <| rg <| vl mv <| ?_
                    refine cl call32 rfl (pickJ_c 3 hK rfl hcode hlen om om om) ?_
                    rintro _ w ⟨⟨k105, rfl, hk105, hkn105⟩, hK⟩
                    refine vl (fa underlying32 rfl Ty.z3 rfl) <| ?_
                    refine so hK Ty.i3 rfl 0 rfl rfl rfl rfl rfl ?_
                    intro w hK
                    refine nl <| thn <| sq <| rg <| vl (lsO hK Ty.a30 Ty.s30 2 rfl rfl rfl) <| vl (fa underlying32 rfl Ty.z3 rfl) <| vl (ldO hK Ty.o3 0 rfl rfl rfl) <| ?_
                    refine cl call73 rfl (l51Owner_c hK hW hlt) ?_
                    rintro _ w ⟨rfl, hK⟩
                    refine vl (mx rfl rfl) <| vl (fa underlying32 rfl Ty.z3 rfl) <| ?_
                    refine so hK Ty.i3 rfl 0 rfl rfl rfl rfl rfl ?_
                    intro w hK
                    refine nl <| thn <| rg <| vl mv <| ?_
                    refine cl call32 rfl (pickJ_c 3 hK rfl hcode hlen om om om) ?_
                    rintro _ w ⟨⟨k114, rfl, hk114, hkn114⟩, hK⟩
                    refine vl (fa underlying32 rfl Ty.z3 rfl) <| ?_
                    refine so hK Ty.i3 rfl 0 rfl rfl rfl rfl rfl ?_
                    intro w hK
                    refine nl <| bkn <| ctn <| ?_
                    exact ⟨(11, _, _, _, _), ⟨rfl, rfl, rfl, trivial⟩, ⟨by simp only; omega, by simp only; omega⟩, hK⟩
                   ·exact absurd c15 d15
                  ·refine sq <| rg <| ?_
                   refine vl (eq rfl rfl) <| vl (aB rfl) <| nl <| thn <| ?_
                   refine cdP rfl (fun c16 => ?_) fun c16 => ?_
                   ·refine sk <| thn <| ?_
                    refine cdP rfl (fun d16 => ?_) fun d16 => ?_
                    ·refine sq <| rg <| ?_
                     refine vl (fa underlying32 rfl Ty.z3 rfl) <| ?_
                     refine so hK Ty.i3 rfl 0 rfl rfl rfl rfl rfl ?_
                     intro w hK
                     refine nl <| thn <| sq <| rg <| vl mv <| ?_
                     refine cl call32 rfl (pickJ_c 3 hK rfl hcode hlen om om om) ?_
                     rintro _ w ⟨⟨k105, rfl, hk105, hkn105⟩, hK⟩
                     refine vl (fa underlying32 rfl Ty.z3 rfl) <| ?_
                     refine so hK Ty.i3 rfl 0 rfl rfl rfl rfl rfl ?_
                     intro w hK
                     refine nl <| thn <| sq <| rg <| vl (lsO hK Ty.a30 Ty.s30 2 rfl rfl rfl) <| vl (fa underlying32 rfl Ty.z3 rfl) <| vl (ldO hK Ty.o3 0 rfl rfl rfl) <| ?_
                     refine cl call73 rfl (l51Owner_c hK hW hlt) ?_
                     rintro _ w ⟨rfl, hK⟩
                     refine vl (mx rfl rfl) <| vl (fa underlying32 rfl Ty.z3 rfl) <| ?_
                     refine so hK Ty.i3 rfl 0 rfl rfl rfl rfl rfl ?_
                     intro w hK
                     refine nl <| thn <| rg <| vl mv <| ?_
                     refine cl call32 rfl (pickJ_c 3 hK rfl hcode hlen om om om) ?_
                     rintro _ w ⟨⟨k114, rfl, hk114, hkn114⟩, hK⟩
                     refine vl (fa underlying32 rfl Ty.z3 rfl) <| ?_
                     refine so hK Ty.i3 rfl 0 rfl rfl rfl rfl rfl ?_
                     intro w hK
                     refine nl <| bkn <| ctn <| ?_
                     exact ⟨(11, _, _, _, _), ⟨rfl, rfl, rfl, trivial⟩, ⟨by simp only; omega, by simp only; omega⟩, hK⟩
                    ·exact absurd c16 d16
                   ·refine sq <| rg <| ?_
                    refine vl (eq rfl rfl) <| vl (aB rfl) <| nl <| thn <| ?_
                    refine cdP rfl (fun c17 => ?_) fun c17 => ?_
                    ·refine sk <| thn <| ?_
                     refine cdP rfl (fun d17 => ?_) fun d17 => ?_
                     ·refine sq <| rg <| ?_
                      refine vl (fa underlying32 rfl Ty.z3 rfl) <| ?_
                      refine so hK Ty.i3 rfl 0 rfl rfl rfl rfl rfl ?_
                      intro w hK
                      refine nl <| thn <| sq <| rg <| vl mv <| ?_
                      refine cl call32 rfl (pickJ_c 3 hK rfl hcode hlen om om om) ?_
                      rintro _ w ⟨⟨k105, rfl, hk105, hkn105⟩, hK⟩
                      refine vl (fa underlying32 rfl Ty.z3 rfl) <| ?_
                      refine so hK Ty.i3 rfl 0 rfl rfl rfl rfl rfl ?_
                      intro w hK
                      refine nl <| thn <| sq <| rg <| vl (lsO hK Ty.a30 Ty.s30 2 rfl rfl rfl) <| vl (fa underlying32 rfl Ty.z3 rfl) <| vl (ldO hK Ty.o3 0 rfl rfl rfl) <| ?_
                      refine cl call73 rfl (l51Owner_c hK hW hlt) ?_
                      rintro _ w ⟨rfl, hK⟩
                      refine vl (mx rfl rfl) <| vl (fa underlying32 rfl Ty.z3 rfl) <| ?_
                      refine so hK Ty.i3 rfl 0 rfl rfl rfl rfl rfl ?_
                      intro w hK
                      refine nl <| thn <| rg <| vl mv <| ?_
                      refine cl call32 rfl (pickJ_c 3 hK rfl hcode hlen om om om) ?_
                      rintro _ w ⟨⟨k114, rfl, hk114, hkn114⟩, hK⟩
                      refine vl (fa underlying32 rfl Ty.z3 rfl) <| ?_
                      refine so hK Ty.i3 rfl 0 rfl rfl rfl rfl rfl ?_
                      intro w hK
                      refine nl <| bkn <| ctn <| ?_
                      exact ⟨(11, _, _, _, _), ⟨rfl, rfl, rfl, trivial⟩, ⟨by simp only; omega, by simp only; omega⟩, hK⟩
                     ·exact absurd c17 d17
                    ·refine sq <| rg <| ?_
                     refine vl (eq rfl rfl) <| vl (aB rfl) <| nl <| thn <| ?_
                     refine cdP rfl (fun c18 => ?_) fun c18 => ?_
                     ·refine sk <| thn <| ?_
                      refine cdP rfl (fun d18 => ?_) fun d18 => ?_
                      ·refine sq <| rg <| ?_
                       refine vl (fa underlying32 rfl Ty.z3 rfl) <| ?_
                       refine so hK Ty.i3 rfl 0 rfl rfl rfl rfl rfl ?_
                       intro w hK
                       refine nl <| thn <| sq <| rg <| vl mv <| ?_
                       refine cl call32 rfl (pickJ_c 3 hK rfl hcode hlen om om om) ?_
                       rintro _ w ⟨⟨k105, rfl, hk105, hkn105⟩, hK⟩
                       refine vl (fa underlying32 rfl Ty.z3 rfl) <| ?_
                       refine so hK Ty.i3 rfl 0 rfl rfl rfl rfl rfl ?_
                       intro w hK
                       refine nl <| thn <| sq <| rg <| vl (lsO hK Ty.a30 Ty.s30 2 rfl rfl rfl) <| vl (fa underlying32 rfl Ty.z3 rfl) <| vl (ldO hK Ty.o3 0 rfl rfl rfl) <| ?_
                       refine cl call73 rfl (l51Owner_c hK hW hlt) ?_
                       rintro _ w ⟨rfl, hK⟩
                       refine vl (mx rfl rfl) <| vl (fa underlying32 rfl Ty.z3 rfl) <| ?_
                       refine so hK Ty.i3 rfl 0 rfl rfl rfl rfl rfl ?_
                       intro w hK
                       refine nl <| thn <| rg <| vl mv <| ?_
                       refine cl call32 rfl (pickJ_c 3 hK rfl hcode hlen om om om) ?_
                       rintro _ w ⟨⟨k114, rfl, hk114, hkn114⟩, hK⟩
                       refine vl (fa underlying32 rfl Ty.z3 rfl) <| ?_
                       refine so hK Ty.i3 rfl 0 rfl rfl rfl rfl rfl ?_
                       intro w hK
                       refine nl <| bkn <| ctn <| ?_
                       exact ⟨(11, _, _, _, _), ⟨rfl, rfl, rfl, trivial⟩, ⟨by simp only; omega, by simp only; omega⟩, hK⟩
                      ·exact absurd c18 d18
                     ·refine rg <| ?_
                      refine vl (eq rfl rfl) <| vl (aB rfl) <| nl <| thn <| ?_
                      refine cdP rfl (fun c19 => ?_) fun c19 => ?_
                      ·refine sq <| rg <| ?_
                       refine vl (fa underlying32 rfl Ty.z3 rfl) <| ?_
                       refine so hK Ty.i3 rfl 0 rfl rfl rfl rfl rfl ?_
                       intro w hK
                       refine nl <| thn <| sq <| rg <| vl mv <| ?_
                       refine cl call32 rfl (pickJ_c 3 hK rfl hcode hlen om om om) ?_
                       rintro _ w ⟨⟨k105, rfl, hk105, hkn105⟩, hK⟩
                       refine vl (fa underlying32 rfl Ty.z3 rfl) <| ?_
                       refine so hK Ty.i3 rfl 0 rfl rfl rfl rfl rfl ?_
                       intro w hK
                       refine nl <| thn <| sq <| rg <| vl (lsO hK Ty.a30 Ty.s30 2 rfl rfl rfl) <| vl (fa underlying32 rfl Ty.z3 rfl) <| vl (ldO hK Ty.o3 0 rfl rfl rfl) <| ?_
                       refine cl call73 rfl (l51Owner_c hK hW hlt) ?_
                       rintro _ w ⟨rfl, hK⟩
                       refine vl (mx rfl rfl) <| vl (fa underlying32 rfl Ty.z3 rfl) <| ?_
                       refine so hK Ty.i3 rfl 0 rfl rfl rfl rfl rfl ?_
                       intro w hK
                       refine nl <| thn <| rg <| vl mv <| ?_
                       refine cl call32 rfl (pickJ_c 3 hK rfl hcode hlen om om om) ?_
                       rintro _ w ⟨⟨k114, rfl, hk114, hkn114⟩, hK⟩
                       refine vl (fa underlying32 rfl Ty.z3 rfl) <| ?_
                       refine so hK Ty.i3 rfl 0 rfl rfl rfl rfl rfl ?_
                       intro w hK
                       refine nl <| bkn <| ctn <| ?_
                       exact ⟨(11, _, _, _, _), ⟨rfl, rfl, rfl, trivial⟩, ⟨by simp only; omega, by simp only; omega⟩, hK⟩
                      ·refine sq <| rg <| ?_
                       refine vl (eq rfl rfl) <| vl (aB rfl) <| nl <| thn <| ?_
                       refine cdP rfl (fun c20 => ?_) fun c20 => ?_
                       ·refine sq <| rg <| ?_
                        refine vl (fa underlying32 rfl Ty.z3 rfl) <| ?_
                        refine so hK Ty.i3 rfl 0 rfl rfl rfl rfl rfl ?_
                        intro w hK
                        refine nl <| thn <| sq <| rg <| vl mv <| ?_
                        refine cl call32 rfl (pickJ_c 3 hK rfl hcode hlen om om om) ?_
                        rintro _ w ⟨⟨k120, rfl, hk120, hkn120⟩, hK⟩
                        refine vl (fa underlying32 rfl Ty.z3 rfl) <| ?_
                        refine so hK Ty.i3 rfl 0 rfl rfl rfl rfl rfl ?_
                        intro w hK
                        refine nl <| thn <| sq <| sq <| rg <| vl (fa underlying30 rfl Ty.z25 rfl) <| vl (ldO hK Ty.o25 2 rfl rfl rfl) <| vl (ln underlying25 rfl hit.len) <| vl (gt rfl rfl) <| nl <| thn <| ?_
                        refine cdP rfl (fun er => ?_) fun er => ?_
                        ·skip
                         refine rgs (fun w => K e w G ((b3, row (wc W) 30) :: L)) (fun w => K _ w _ _) [U,U,U,U,U,U,U,U,U,U,U,U] 12 Ty.mixed rfl rfl (hK.drawn _) ?_
                         intro w hK
                         have hS : (fun w => K e w G ((b3, row (wc W) 30) :: L)) w := K.sl hK
                         refine xt (i := 0) rfl kr rfl rfl (fun w hK => (fa underlying30 rfl Ty.z25 rfl)) hS <| xt (i := 1) rfl kr rfl rfl (fun w hK => (ldO hK Ty.o25 0 rfl rfl rfl)) hS <| xt (i := 2) rfl kr rfl rfl (fun w hK => mv) hS <| xt (i := 3) rfl kr rfl rfl (fun w hK => (fa underlying30 rfl Ty.z25 rfl)) hS <| xt (i := 4) rfl kr rfl rfl (fun w hK => (ldO hK Ty.o25 0 rfl rfl rfl)) hS <| xt (i := 5) rfl kr rfl rfl (fun w hK => (ln underlying25 rfl hit.len)) hS <| ?_
                         refine xe (i := 6) kr rfl rfl ?_
                         refine cl call32 rfl (pickJ_c (rb := rb) 3 hK rfl hcode hlen om om om) ?_
                         rintro _ w ⟨⟨k132, rfl, r3, r4⟩, hK⟩
                         obtain ⟨m2, rfl⟩ : ∃ m : Nat, k132 = m := ⟨k132.toNat, by omega⟩
                         refine xnk (K.sl hK) fun hS => ?_
                         refine xt (i := 7) rfl kr rfl rfl (fun w hK => (ixm (m := m2) underlying25 Ty.s54 rfl hit.1 rfl om om)) hS <| xt (i := 8) rfl kr rfl rfl (fun w hK => (fe underlying54 rfl Ty.z3 rfl hit.1 om)) hS <| xt (i := 9) rfl kr rfl rfl (fun w hK => (ldV hK Ty.o3 rfl (by exact hit.cell om 0 rfl))) hS <| xt (i := 10) rfl kr rfl rfl (fun w hK => (fa underlying32 rfl Ty.z3 rfl)) hS <| ?_
                         refine xe (i := 11) kr rfl rfl ?_
                         refine so hK Ty.i3 rfl 0 rfl rfl rfl rfl rfl ?_
                         intro w hK
                         refine xnk (K.sl hK) fun hS => ?_
                         refine xd kr <| thn <| rg <| vl (lsO hK Ty.a30 Ty.s30 2 rfl rfl rfl) <| vl (fa underlying32 rfl Ty.z3 rfl) <| vl (ldO hK Ty.o3 0 rfl rfl rfl) <| ?_
                         refine cl call73 rfl (l51Owner_c hK hW hlt) ?_
                         rintro _ w ⟨rfl, hK⟩
                         refine vl (mx rfl rfl) <| vl (fa underlying32 rfl Ty.z3 rfl) <| ?_
                         refine so hK Ty.i3 rfl 0 rfl rfl rfl rfl rfl ?_
                         intro w hK
                         refine nl <| bkn <| ctn <| ?_
                         exact ⟨(12, _, _, _, _), ⟨rfl, rfl, rfl, trivial⟩, ⟨by simp only; omega, by simp only; omega⟩, hK⟩
                        ·refine sk <| thn <| rg <| ?_
                         refine vl (lsO hK Ty.a30 Ty.s30 2 rfl rfl rfl) <| vl (fa underlying32 rfl Ty.z3 rfl) <| vl (ldO hK Ty.o3 0 rfl rfl rfl) <| ?_
                         refine cl call73 rfl (l51Owner_c hK hW hlt) ?_
                         rintro _ w ⟨rfl, hK⟩
                         refine vl (mx rfl rfl) <| vl (fa underlying32 rfl Ty.z3 rfl) <| ?_
                         refine so hK Ty.i3 rfl 0 rfl rfl rfl rfl rfl ?_
                         intro w hK
                         refine nl <| bkn <| ctn <| ?_
                         exact ⟨(12, _, _, _, _), ⟨rfl, rfl, rfl, trivial⟩, ⟨by simp only; omega, by simp only; omega⟩, hK⟩
                       ·refine sq <| rg <| ?_
                        refine vl (eq rfl rfl) <| vl (aB rfl) <| nl <| thn <| ?_
                        refine cdP rfl (fun c21 => ?_) fun c21 => ?_
                        ·refine rg <| ?_
                         refine vl (fa underlying32 rfl Ty.z3 rfl) <| ?_
                         refine so hK Ty.i3 rfl 0 rfl rfl rfl rfl rfl ?_
                         intro w hK
                         refine nl <| bkn <| ctn <| ?_
                         exact ⟨(13, _, _, _, _), ⟨rfl, rfl, rfl, trivial⟩, ⟨by simp only; omega, by simp only; omega⟩, hK⟩
                        ·refine rg <| ?_
                         refine vl (fa underlying32 rfl Ty.z3 rfl) <| ?_
                         refine so hK Ty.i3 rfl 0 rfl rfl rfl rfl rfl ?_
                         intro w hK
                         refine nl <| bkn <| ctn <| ?_
                         exact ⟨(14, _, _, _, _), ⟨rfl, rfl, rfl, trivial⟩, ⟨by simp only; omega, by simp only; omega⟩, hK⟩
  ·rintro ⟨kd, a, b, c, q3⟩ g w ⟨⟨q4, q5⟩, hK⟩
   simp only at q4 q5 hK
   refine thn <| sq <| sq <| rg <| ?_
   refine vl mv <| ?_
   refine cl call32 rfl (pickJ_c 3 hK rfl hcode hlen om om om) ?_
   rintro _ w ⟨⟨k147, rfl, hk147, hkn147⟩, hK⟩
   refine nl <| thn <| ?_
   refine ct (σ := Int × Int × Int × Int × Int) (fun s => [(0, .pointer (some ⟨rb, 0, none⟩)), (4, .pointer (some ⟨b4, 0, none⟩)), (8, .pointer (some ⟨b8, 0, none⟩))]) (fun s w => (p ≤ s.2.2.2.2 ∧ s.2.2.2.2 ≤ p + 40) ∧ K e w G ((b8, row (ec s.1 s.2.1 s.2.2.1 s.2.2.2.1) 32) :: (b4, row (ec 0 0 0 0) 32) :: (b3, row (wc W) 30) :: (rb, row [cva, .int .i64 s.2.2.2.2] 98) :: L)) ?_ ?_
   ·refine bk <| sq <| rg <| ?_
    refine vl (eq rfl rfl) <| vl (aB rfl) <| nl <| thn <| ?_
    refine cdP rfl (fun f0 => ?_) fun f0 => ?_
    ·refine rg <| ?_
     refine vl mv <| ?_
     refine cl call32 rfl (pickJ_c 3 hK rfl hcode hlen om om om) ?_
     rintro _ w ⟨⟨k151, rfl, hk151, hkn151⟩, hK⟩
     refine vl (sb rfl rfl) <| vl (fa underlying32 rfl Ty.z3 rfl) <| ?_
     refine so hK Ty.i3 rfl 0 rfl rfl rfl rfl rfl ?_
     intro w hK
     refine nl <| bkn <| ctn <| ?_
     exact ⟨(_, a, b, c, _), ⟨rfl, rfl, rfl, trivial⟩, ⟨by first | omega | (simp only; omega), by first | omega | (simp only; omega)⟩, hK⟩
    ·refine sq <| rg <| ?_
     refine vl (eq rfl rfl) <| vl (aB rfl) <| nl <| thn <| ?_
     refine cdP rfl (fun f1 => ?_) fun f1 => ?_
     ·refine rg <| ?_
      refine vl mv <| ?_
      refine cl call74 rfl (l91PointJ_c 3 hK rfl hcode hlen om om) ?_
      rintro _ w ⟨k157, p157, rfl, hk157, hkn157, hp157, hq157, hK⟩
      refine vl (fa underlying32 rfl Ty.z3 rfl) <| ?_
      refine so hK Ty.i3 rfl 0 rfl rfl rfl rfl rfl ?_
      intro w hK
      refine nl <| bkn <| ctn <| ?_
      exact ⟨(kd, _, b, c, _), ⟨rfl, rfl, rfl, trivial⟩, ⟨by first | omega | (simp only; omega), by first | omega | (simp only; omega)⟩, hK⟩
     ·refine sq <| rg <| ?_
      refine vl (eq rfl rfl) <| vl (aB rfl) <| nl <| thn <| ?_
      refine cdP rfl (fun f2 => ?_) fun f2 => ?_
      ·refine rg <| ?_
       refine vl mv <| ?_
       refine cl call74 rfl (l91PointJ_c 3 hK rfl hcode hlen om om) ?_
       rintro _ w ⟨k162, p162, rfl, hk162, hkn162, hp162, hq162, hK⟩
       refine vl (fa underlying32 rfl Ty.z3 rfl) <| ?_
       refine so hK Ty.i3 rfl 0 rfl rfl rfl rfl rfl ?_
       intro w hK
       refine nl <| bkn <| ctn <| ?_
       exact ⟨(kd, a, _, c, _), ⟨rfl, rfl, rfl, trivial⟩, ⟨by first | omega | (simp only; omega), by first | omega | (simp only; omega)⟩, hK⟩
      ·refine sq <| rg <| ?_
       refine vl (eq rfl rfl) <| vl (aB rfl) <| nl <| thn <| ?_
       refine cdP rfl (fun f3 => ?_) fun f3 => ?_
       ·refine rg <| ?_
        refine vl mv <| ?_
        refine cl call32 rfl (pickJ_c 3 hK rfl hcode hlen om om om) ?_
        rintro _ w ⟨⟨k167, rfl, hk167, hkn167⟩, hK⟩
        refine vl (sb rfl rfl) <| vl (fa underlying32 rfl Ty.z3 rfl) <| ?_
        refine so hK Ty.i3 rfl 0 rfl rfl rfl rfl rfl ?_
        intro w hK
        refine nl <| bkn <| ctn <| ?_
        exact ⟨(kd, a, b, _, _), ⟨rfl, rfl, rfl, trivial⟩, ⟨by first | omega | (simp only; omega), by first | omega | (simp only; omega)⟩, hK⟩
       ·refine sk <| bkn <| ctn <| ?_
        exact ⟨(kd, a, b, c, _), ⟨rfl, rfl, rfl, trivial⟩, ⟨by first | omega | (simp only; omega), by first | omega | (simp only; omega)⟩, hK⟩
   ·rintro ⟨kd', a', b', c', q6⟩ g w ⟨⟨q7, q8⟩, hK⟩
    simp only at q7 q8 hK
    refine thn <| sq <| rg <| ?_
    refine vl (lsO hK Ty.a32 Ty.s32 0 rfl rfl rfl) <| ?_
    refine soS hK Ty.i32 1 rfl rfl rfl rfl rfl rfl ?_
    intro w hK
    refine nl <| thn <| rt <| pg1r (rvS hK Ty.a32 Ty.s32 1 rfl rfl rfl) <| ?_
    exact ⟨_, _, _, _, _, rfl, q7, q8, hK.drop1.drop1.drop1⟩
theorem l92EventJ_c (j : Nat) {L : Own} (hK : K e w G L) (hj : L[j]? = some (rb, row [cva, .int .i64 p] 98)) (hcode : BytS G cva code) (hlen : code.length ≤ 2000) (h0 : 0 ≤ p) (h1 : p ≤ 800000000) (hW : WdS G lc W wd rs) (hok : WdOk wd) :
  Ret prog 31 #[.pointer (some ⟨rb, 0, none⟩), .agg (wc W).toArray] w (fun r w' => ∃ kd a b c p', r = .agg (ec kd a b c).toArray ∧ p ≤ p' ∧ p' ≤ p + 40 ∧ K e w' G (L.set j (rb, row [cva, .int .i64 p'] 98))) :=
 (l92Event_c (hK.nth hj) hcode hlen h0 h1 hW hok).mono fun _ _ ⟨kd, a, b, c, p', h1, h4, h5, hK⟩ => ⟨kd, a, b, c, p', h1, h4, h5, hK.perm (set_perm hj)⟩
end
end Go.Proofs.YtmfolinemnlnbaaGreatDoor
