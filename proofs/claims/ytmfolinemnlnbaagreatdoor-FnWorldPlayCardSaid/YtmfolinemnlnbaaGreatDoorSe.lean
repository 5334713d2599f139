/- Contracts of the steps of a scan and of whole scans. Contracts of the functions that draw leases, keys and scans. Contracts of the functions that copy, compare and mark leases and scans. Conditions: those that each row states. -/
import Derived.Test.YtmfolinemnlnbaaGreatDoorSk
import Derived.Test.YtmfolinemnlnbaaGreatDoorDr
import Derived.Test.YtmfolinemnlnbaaGreatDoorCf
namespace Go.Proofs.YtmfolinemnlnbaaGreatDoor
open Go Go.Ro Tryz
section
variable {e w : World} {G : View} {L A : Own} {v u t t2 : Value} {xs ys ks ts us : List Int} {ls : List Ls} {n m : Int}
theorem sameScan_c (hK : K e w G L) (ht : IntS G t ts) (hu : IntS G t2 us) :
  Ret prog 41 #[.agg #[.int .i64 n, t], .agg #[.int .i64 m, t2]] w (fun r w' => r = .bool (decide (n = m ∧ ts = us)) ∧ K e w' G L) := by
 refine enter1 (args := [.agg #[.int .i64 n, t], .agg #[.int .i64 m, t2]]) func41 rfl rfl rfl rfl ?_
 refine sq <| rg <| ?_
 refine bx hK rfl rfl ?_
 intro b2 w hK
 refine bx hK rfl rfl ?_
 intro b3 w hK
 refine vl (aB rfl) <| nl <| thn <| sq <| rg <| vl (fa underlying28 rfl Ty.z3 rfl) <| vl (ldO hK Ty.o3 1 rfl rfl rfl) <| vl (fa underlying28 rfl Ty.z3 rfl) <| vl (ldO hK Ty.o3 0 rfl rfl rfl) <| vl (eq rfl rfl) <| vl (mB rfl) <| ?_
 refine splP (t := 10) rfl (fun h => ?_) fun h => ?_
 ·refine gy rfl <| vl (fa underlying28 rfl Ty.z26 rfl) <| gy rfl <| vl (ldO hK Ty.o26 1 rfl rfl rfl) <| gy rfl <| vl (fa underlying28 rfl Ty.z26 rfl) <| gy rfl <| vl (ldO hK Ty.o26 0 rfl rfl rfl) <| gy rfl <| ?_
  refine cl call25 rfl (sameInts_c hK (by assumption) (by assumption)) ?_
  rintro _ w ⟨rfl, hK⟩
  refine vl (pk rfl) <| vl (aB rfl) <| nl <| thn <| rt <| p1r (a := .bool _) rfl <| ?_
  exact ⟨by simp [h], hK.drop1.drop1⟩
 ·refine gn rfl <| gn rfl <| gn rfl <| gn rfl <| gn rfl <| vl (pk rfl) <| vl (aB rfl) <| nl <| thn <| rt <| p1r (a := .bool _) rfl <| ?_
  exact ⟨by simp [h], hK.drop1.drop1⟩
end
open Go Go.Ro Tryz
theorem q64 {n : Int} (h : 1 ≤ n) (h2 : n ≤ 12) : 1 ≤ 64 / n ∧ 64 / n ≤ 64 := by
 have : n = 1 ∨ n = 2 ∨ n = 3 ∨ n = 4 ∨ n = 5 ∨ n = 6 ∨ n = 7 ∨ n = 8 ∨ n = 9 ∨ n = 10 ∨ n = 11 ∨ n = 12 := by omega
 rcases this with rfl | rfl | rfl | rfl | rfl | rfl | rfl | rfl | rfl | rfl | rfl | rfl <;> decide
section
variable {e w : World} {G : View} {L A : Own} {cva v u t : Value} {code xs ys ks ts : List Int} {ls : List Ls} {n p : Int} {rb : Nat}
theorem pickJ_c (j : Nat) {L : Own} (hK : K e w G L) (hj : L[j]? = some (rb, row [cva, .int .i64 p] 98)) (hcode : BytS G cva code) (hlen : code.length ≤ 2000) (h0 : 0 ≤ p) (h1 : p ≤ 1000000000) (hn : 1 ≤ n) :
  Ret prog 32 #[.pointer (some ⟨rb, 0, none⟩), .int .i64 n] w (fun r w' => (∃ k, r = .int .i64 k ∧ 0 ≤ k ∧ k < n) ∧ K e w' G (L.set j (rb, row [cva, .int .i64 (p + 1)] 98))) :=
 (pickN_c (hK.nth hj) hcode hlen h0 h1 hn).mono fun _ _ ⟨h, hK⟩ => ⟨h, hK.perm (set_perm hj)⟩
theorem l91PointJ_c (j : Nat) {L : Own} (hK : K e w G L) (hj : L[j]? = some (rb, row [cva, .int .i64 p] 98)) (hcode : BytS G cva code) (hlen : code.length ≤ 2000) (h0 : 0 ≤ p) (h1 : p ≤ 900000000) :
  Ret prog 74 #[.pointer (some ⟨rb, 0, none⟩)] w (fun r w' => ∃ k p', r = .int .i64 k ∧ -1 ≤ k ∧ k ≤ 64 ∧ p ≤ p' ∧ p' ≤ p + 2 ∧ K e w' G (L.set j (rb, row [cva, .int .i64 p'] 98))) :=
 (l91Point_c (hK.nth hj) hcode hlen h0 h1).mono fun _ _ ⟨k, p', h1, h2, h3, h4, h5, hK⟩ => ⟨k, p', h1, h2, h3, h4, h5, hK.perm (set_perm hj)⟩
theorem l91Time_c (hK : K e w G ((rb, row [cva, .int .i64 p] 98) :: L)) (hcode : BytS G cva code) (hlen : code.length ≤ 2000) (h0 : 0 ≤ p) (h1 : p ≤ 900000000) :
  Ret prog 75 #[.pointer (some ⟨rb, 0, none⟩)] w (fun r w' => ∃ k p', r = .int .i64 k ∧ p ≤ p' ∧ p' ≤ p + 2 ∧ K e w' G ((rb, row [cva, .int .i64 p'] 98) :: L)) := by
 refine enter1 (args := [.pointer (some ⟨rb, 0, none⟩)]) func75 rfl rfl rfl rfl ?_
 refine sq <| rg <| ?_
 refine vl (aI rfl) <| nl <| thn <| sq <| sq <| rg <| vl mv <| ?_
 refine cl call32 rfl (pickN_c hK hcode hlen om om om) ?_
 rintro _ w ⟨⟨k4, rfl, hk4, hkn4⟩, hK⟩
 refine vl (eq rfl rfl) <| nl <| thn <| ?_
 refine cdP rfl (fun h => ?_) fun h => ?_
 ·have ho : ∀ b : Nat, OS 1 3 (.slice (some ⟨b, 0, none⟩) 4 4) 4 (ints [-1, 0, 999, 1000]) [(b, row (ints [-1, 0, 999, 1000]) 3)] := fun b => OS.lit rfl (by decide)
  refine sq <| rg <| ?_
  refine bsN [.const (.int .i64 (-1)), .const (.int .i64 0), .const (.int .i64 999), .const (.int .i64 1000)] hK underlying26 Ty.i3 rfl rfl rfl rfl rfl rfl rfl rfl ?_
  intro b6 w hK
  refine vl mv <| ?_
  refine cl call32 rfl (pickJ_c 1 hK rfl hcode hlen om om om) ?_
  rintro _ w ⟨⟨k8, rfl, hk8, hkn8⟩, hK⟩
  obtain ⟨m, rfl⟩ : ∃ m : Nat, k8 = m := ⟨k8.toNat, by omega⟩
  refine vl (ixm1 (m := m) underlying26 Ty.s3 rfl (ho b6).slw rfl rfl om) <| vl (ldC Ty.o3 rfl ((ho b6).cell (L := (rb, row [cva, .int .i64 (p + 1 + 1)] 98) :: L) hK (ints_get (by show m < 4; omega)))) <| vl (aI rfl) <| nl <| thn <| rt <| thr <| p1r (a := .int _ _) rfl <| ?_
  exact ⟨_, _, rfl, by omega, by omega, hK.drop1⟩
 ·refine sk <| thn <| sq <| rg <| ?_
  refine vl mv <| ?_
  refine cl call32 rfl (pickN_c hK hcode hlen om om om) ?_
  rintro _ w ⟨⟨k12, rfl, hk12, hkn12⟩, hK⟩
  refine vl (aI rfl) <| nl <| thn <| rt <| p1r (a := .int _ _) rfl <| ?_
  exact ⟨_, _, rfl, by omega, by omega, hK⟩
theorem l91TimeJ_c (j : Nat) {L : Own} (hK : K e w G L) (hj : L[j]? = some (rb, row [cva, .int .i64 p] 98)) (hcode : BytS G cva code) (hlen : code.length ≤ 2000) (h0 : 0 ≤ p) (h1 : p ≤ 900000000) :
  Ret prog 75 #[.pointer (some ⟨rb, 0, none⟩)] w (fun r w' => ∃ k p', r = .int .i64 k ∧ p ≤ p' ∧ p' ≤ p + 2 ∧ K e w' G (L.set j (rb, row [cva, .int .i64 p'] 98))) :=
 (l91Time_c (hK.nth hj) hcode hlen h0 h1).mono fun _ _ ⟨k, p', h1, h4, h5, hK⟩ => ⟨k, p', h1, h4, h5, hK.perm (set_perm hj)⟩
theorem l92Scan_c (hK : K e w G ((rb, row [cva, .int .i64 p] 98) :: L)) (hcode : BytS G cva code) (hlen : code.length ≤ 2000) (h0 : 0 ≤ p) (h1 : p ≤ 900000000) :
  Ret prog 78 #[.pointer (some ⟨rb, 0, none⟩)] w (fun r w' => ∃ G' t n zs p', r = .agg #[.int .i64 n, t] ∧ VLe G G' ∧ IntS G' t zs ∧ zs.length ≤ 67 ∧ -1 ≤ n ∧ n ≤ 66 ∧ p ≤ p' ∧ p' ≤ p + 70 ∧ K e w' G' ((rb, row [cva, .int .i64 p'] 98) :: L)) := by
 refine enterG1 (args := [.pointer (some ⟨rb, 0, none⟩)]) func78 rfl rfl rfl rfl ?_
 refine sq <| rg <| ?_
 refine al hK Ty.i28 rfl ?_
 intro b2 w hK
 refine nl <| thn <| sq <| rg <| vl mv <| ?_
 refine cl call32 rfl (pickJ_c 1 hK rfl hcode hlen om om om) ?_
 rintro _ w ⟨⟨k6, rfl, hk6, hkn6⟩, hK⟩
 refine bs0 hK underlying26 Ty.i3 ?_
 intro b7 w hK
 refine vl (bd [(0, _), (1, _)] Ty.p28 Ty.i28 rfl ⟨⟨rfl, rfl⟩, ⟨rfl, rfl⟩, trivial⟩ rfl) <| ?_
 refine al hK Ty.i28 rfl ?_
 intro b3 w hK
 refine soS hK Ty.i28 0 rfl rfl rfl rfl rfl rfl ?_
 intro w hK
 refine nl <| thn <| sq <| sq <| rg <| vl (aI rfl) <| nl <| thn <| bk <| ?_
 replace hK : K e w G ((b3, row [.int .i64 k6, .slice (some ⟨b7, 0, none⟩) 0 0] 28) :: ([(b7, row [] 3)] ++ ([(b2, row [.int .i64 0, .slice none 0 0] 28), (rb, row [cva, .int .i64 (p + 1)] 98)] ++ L))) := hK
 replace hK := hK.midc
 refine lp (σ := Nat × Int × Value × List Int × Own) (fun s => [(0, .pointer (some ⟨rb, 0, none⟩)), (2, .pointer (some ⟨b2, 0, none⟩)), (3, .pointer (some ⟨b3, 0, none⟩)), (4, .int .i64 (s.1 : Int))]) (fun s w => (s.1 : Int) ≤ k6 ∧ s.2.1 = p + 1 + s.1 ∧ s.2.2.2.1.length ≤ s.1 ∧ OS 1 3 s.2.2.1 s.2.2.2.1.length (ints s.2.2.2.1) s.2.2.2.2 ∧ K e w G ((b3, row [.int .i64 k6, s.2.2.1] 28) :: (b2, row [.int .i64 0, .slice none 0 0] 28) :: (rb, row [cva, .int .i64 s.2.1] 98) :: (s.2.2.2.2 ++ L))) (fun s => k6.toNat - s.1) (0, p + 1, .slice (some ⟨b7, 0, none⟩) 0 0, [], [(b7, row [] 3)]) ⟨rfl, rfl, rfl, rfl, trivial⟩ ⟨by simp only; omega, by simp, Nat.le_refl _, OS.none, hK⟩ ?_
 rintro ⟨i, q, v, zs, A⟩ g w ⟨hi, hq, hz, ho, hK⟩
 simp only at hi hq hz ho hK
 refine sq <| sq <| rg <| ?_
 refine vl (mI rfl) <| vl (fa underlying28 rfl Ty.z3 rfl) <| vl (ldO hK Ty.o3 0 rfl rfl rfl) <| vl (lt rfl rfl) <| nl <| thn <| ?_
 refine cdP rfl (fun hc => ?_) fun hc => ?_
 ·have hi' : (i : Int) < k6 := by simp only at hc; omega
  refine sk <| thn <| sq <| bk <| sq <| rg <| ?_
  refine vl mv <| ?_
  refine cl call32 rfl (pickJ_c 2 hK rfl hcode hlen om om om) ?_
  rintro _ w ⟨⟨k16, rfl, hk16, hkn16⟩, hK⟩
  refine vl (eq rfl rfl) <| nl <| thn <| ?_
  refine cdP rfl (fun hx => ?_) fun hx => ?_
  ·refine rg <| ?_
   refine vl (fa underlying28 rfl Ty.z26 rfl) <| vl (ldO hK Ty.o26 0 rfl rfl rfl) <| vl (mI rfl) <| ?_
   refine bsN [.tmp 20] hK underlying26 Ty.i3 rfl rfl rfl rfl rfl rfl rfl rfl ?_
   intro b21 w hK
   replace hK := K.midc (A := [_, _, _]) hK
   refine apI1 (k := (i : Int)) hK underlying26 Ty.i3 rfl rfl ho rfl om fun v' A' w ho hK => ?_
   replace hK := K.mid (B := [_, _, _]) hK
   refine vl (fa underlying28 rfl Ty.z26 rfl) <| ?_
   refine so hK Ty.i26 rfl 0 rfl rfl rfl ho.one rfl ?_
   intro w hK
   refine nl <| bkn <| thn <| rg <| vl (mI rfl) <| vl (ad rfl rfl) <| vl (aI rfl) <| nl <| thn <| ?_
   exact ⟨(i + 1, q + 1, v', zs ++ [(i : Int)], A'), ⟨rfl, rfl, rfl, rfl, trivial⟩, ⟨by simp only; omega, by simp only; omega, by simp; omega, ho, hK⟩, by simp only; omega⟩
  ·refine sk <| bkn <| thn <| rg <| ?_
   refine vl (mI rfl) <| vl (ad rfl rfl) <| vl (aI rfl) <| nl <| thn <| ?_
   exact ⟨(i + 1, q + 1, v, zs, A), ⟨rfl, rfl, rfl, rfl, trivial⟩, ⟨by simp only; omega, by simp only; omega, by simp only; omega, ho, hK⟩, by simp only; omega⟩
 ·skip
  refine ex <| the <| the <| bkh <| thn <| sq <| sq <| rg <| ?_
  refine vl mv <| ?_
  refine cl call32 rfl (pickJ_c 2 hK rfl hcode hlen om om om) ?_
  rintro _ w ⟨⟨k25, rfl, hk25, hkn25⟩, hK⟩
  refine nl <| thn <| bk <| sq <| rg <| vl (eq rfl rfl) <| vl (aB rfl) <| nl <| thn <| ?_
  refine cdP rfl (fun hx => ?_) fun hx => ?_
  ·refine rg <| ?_
   refine vl mv <| ?_
   refine cl call32 rfl (pickJ_c 2 hK rfl hcode hlen om om om) ?_
   rintro _ w ⟨⟨k29, rfl, hk29, hkn29⟩, hK⟩
   refine vl (sb rfl rfl) <| vl (fa underlying28 rfl Ty.z3 rfl) <| ?_
   refine so hK Ty.i3 rfl 0 rfl rfl rfl rfl rfl ?_
   intro w hK
   refine nl <| bkn <| thn <| sq <| rg <| vl (lsO hK Ty.a28 Ty.s28 0 rfl rfl rfl) <| ?_
   refine soS hK Ty.i28 1 rfl rfl rfl rfl (allc rfl (allc ho.one rfl)) rfl ?_
   intro w hK
   refine nl <| thn <| rt <| pg1r (rvS hK Ty.a28 Ty.s28 1 rfl rfl rfl) <| ?_
   obtain ⟨G', hG, hx, hK⟩ := (K.mid (A := [_, _, _]) hK).pubO ho
   exact ⟨G', _, _, _, _, rfl, hG, hx, by omega, by omega, by omega, by omega, by omega, hK.drop1.drop1⟩
  ·refine sq <| rg <| ?_
   refine vl (eq rfl rfl) <| vl (aB rfl) <| nl <| thn <| ?_
   refine cdP rfl (fun hy => ?_) fun hy => ?_
   ·skip
    refine rgs (fun w => K e w G L) (fun w => K _ w _ _) [U,U,U,U,U,U,U,U] 8 Ty.mixed rfl rfl (hK.drawn _) ?_
    intro w hK
    have hS : (fun w => K e w G L) w := K.sl hK
    refine xt (i := 0) rfl kr rfl rfl (fun w hK => (fa underlying28 rfl Ty.z26 rfl)) hS <| xt (i := 2) rfl kr rfl rfl (fun w hK => mv) hS <| ?_
    refine xe2 (i := 1) (j := 3) kr rfl rfl rfl rfl ?_ ?_
    ·refine vl (ldO hK Ty.o26 0 rfl rfl rfl) <| ?_
     refine xnk (K.sl hK) fun hS => ?_
     refine xe (i := 3) kr rfl rfl ?_
     refine cl call32 rfl (pickJ_c 2 hK rfl hcode hlen om om om) ?_
     rintro _ w ⟨⟨k37, rfl, hk37, hkn37⟩, hK⟩
     refine xnk (K.sl hK) fun hS => ?_
     refine xe (i := 4) kr rfl rfl ?_
     refine bsN [.tmp 37] hK underlying26 Ty.i3 rfl rfl rfl rfl rfl rfl rfl rfl ?_
     intro b38 w hK
     refine xnk (K.sl hK) fun hS => ?_
     refine xe (i := 5) kr rfl rfl ?_
     replace hK : K e w G ((b38, row [.int .i64 k37] 3) :: ([(b3, row [.int .i64 k6, v] 28), (b2, row [.int .i64 0, .slice none 0 0] 28), (rb, row [cva, .int .i64 (q + 1 + 1)] 98)] ++ (A ++ L))) := hK
     replace hK := hK.midc
     refine apI1 (k := k37) hK underlying26 Ty.i3 rfl rfl ho rfl om fun v2 A2 w ho hK => ?_
     replace hK := K.mid (B := [_, _, _]) hK
     refine xnk (K.sl hK) fun hS => ?_
     refine xt (i := 6) rfl kr rfl rfl (fun w hK => (fa underlying28 rfl Ty.z26 rfl)) hS <| ?_
     refine xe (i := 7) kr rfl rfl ?_
     refine so hK Ty.i26 rfl 0 rfl rfl rfl ho.one rfl ?_
     intro w hK
     refine xnk (K.sl hK) fun hS => ?_
     refine xd kr <| bkn <| thn <| sq <| rg <| vl (lsO hK Ty.a28 Ty.s28 0 rfl rfl rfl) <| ?_
     refine soS hK Ty.i28 1 rfl rfl rfl rfl (allc rfl (allc ho.one rfl)) rfl ?_
     intro w hK
     refine nl <| thn <| rt <| pg1r (rvS hK Ty.a28 Ty.s28 1 rfl rfl rfl) <| ?_
     obtain ⟨G', hG, hx, hK⟩ := (K.mid (A := [_, _, _]) hK).pubO ho
     exact ⟨G', _, _, _, _, rfl, hG, hx, by rw [List.length_append, List.length_singleton]; omega, by omega, by omega, by omega, by omega, hK.drop1.drop1⟩
    ·refine cl call32 rfl (pickJ_c 2 hK rfl hcode hlen om om om) ?_
     rintro _ w ⟨⟨k37, rfl, hk37, hkn37⟩, hK⟩
     refine xnk (K.sl hK) fun hS => ?_
     refine xe2 (i := 1) (j := 4) kr rfl rfl rfl rfl ?_ ?_
     ·refine vl (ldO hK Ty.o26 0 rfl rfl rfl) <| ?_
      refine xnk (K.sl hK) fun hS => ?_
      refine xe (i := 4) kr rfl rfl ?_
      refine bsN [.tmp 37] hK underlying26 Ty.i3 rfl rfl rfl rfl rfl rfl rfl rfl ?_
      intro b38 w hK
      refine xnk (K.sl hK) fun hS => ?_
      refine xe (i := 5) kr rfl rfl ?_
      replace hK : K e w G ((b38, row [.int .i64 k37] 3) :: ([(b3, row [.int .i64 k6, v] 28), (b2, row [.int .i64 0, .slice none 0 0] 28), (rb, row [cva, .int .i64 (q + 1 + 1)] 98)] ++ (A ++ L))) := hK
      replace hK := hK.midc
      refine apI1 (k := k37) hK underlying26 Ty.i3 rfl rfl ho rfl om fun v2 A2 w ho hK => ?_
      replace hK := K.mid (B := [_, _, _]) hK
      refine xnk (K.sl hK) fun hS => ?_
      refine xt (i := 6) rfl kr rfl rfl (fun w hK => (fa underlying28 rfl Ty.z26 rfl)) hS <| ?_
      refine xe (i := 7) kr rfl rfl ?_
      refine so hK Ty.i26 rfl 0 rfl rfl rfl ho.one rfl ?_
      intro w hK
      refine xnk (K.sl hK) fun hS => ?_
      refine xd kr <| bkn <| thn <| sq <| rg <| vl (lsO hK Ty.a28 Ty.s28 0 rfl rfl rfl) <| ?_
      refine soS hK Ty.i28 1 rfl rfl rfl rfl (allc rfl (allc ho.one rfl)) rfl ?_
      intro w hK
      refine nl <| thn <| rt <| pg1r (rvS hK Ty.a28 Ty.s28 1 rfl rfl rfl) <| ?_
      obtain ⟨G', hG, hx, hK⟩ := (K.mid (A := [_, _, _]) hK).pubO ho
      exact ⟨G', _, _, _, _, rfl, hG, hx, by rw [List.length_append, List.length_singleton]; omega, by omega, by omega, by omega, by omega, hK.drop1.drop1⟩
     ·refine bsN [.tmp 37] hK underlying26 Ty.i3 rfl rfl rfl rfl rfl rfl rfl rfl ?_
      intro b38 w hK
      refine xnk (K.sl hK) fun hS => ?_
      refine xe (i := 1) kr rfl rfl ?_
      refine vl (ldO hK Ty.o26 1 rfl rfl rfl) <| ?_
      refine xnk (K.sl hK) fun hS => ?_
      refine xe (i := 5) kr rfl rfl ?_
      replace hK : K e w G ((b38, row [.int .i64 k37] 3) :: ([(b3, row [.int .i64 k6, v] 28), (b2, row [.int .i64 0, .slice none 0 0] 28), (rb, row [cva, .int .i64 (q + 1 + 1)] 98)] ++ (A ++ L))) := hK
      replace hK := hK.midc
      refine apI1 (k := k37) hK underlying26 Ty.i3 rfl rfl ho rfl om fun v2 A2 w ho hK => ?_
      replace hK := K.mid (B := [_, _, _]) hK
      refine xnk (K.sl hK) fun hS => ?_
      refine xt (i := 6) rfl kr rfl rfl (fun w hK => (fa underlying28 rfl Ty.z26 rfl)) hS <| ?_
      refine xe (i := 7) kr rfl rfl ?_
      refine so hK Ty.i26 rfl 0 rfl rfl rfl ho.one rfl ?_
      intro w hK
      refine xnk (K.sl hK) fun hS => ?_
      refine xd kr <| bkn <| thn <| sq <| rg <| vl (lsO hK Ty.a28 Ty.s28 0 rfl rfl rfl) <| ?_
      refine soS hK Ty.i28 1 rfl rfl rfl rfl (allc rfl (allc ho.one rfl)) rfl ?_
      intro w hK
      refine nl <| thn <| rt <| pg1r (rvS hK Ty.a28 Ty.s28 1 rfl rfl rfl) <| ?_
      obtain ⟨G', hG, hx, hK⟩ := (K.mid (A := [_, _, _]) hK).pubO ho
      exact ⟨G', _, _, _, _, rfl, hG, hx, by rw [List.length_append, List.length_singleton]; omega, by omega, by omega, by omega, by omega, hK.drop1.drop1⟩
   ·refine sk <| bkn <| thn <| sq <| rg <| ?_
    refine vl (lsO hK Ty.a28 Ty.s28 0 rfl rfl rfl) <| ?_
    refine soS hK Ty.i28 1 rfl rfl rfl rfl (allc rfl (allc ho.one rfl)) rfl ?_
    intro w hK
    refine nl <| thn <| rt <| pg1r (rvS hK Ty.a28 Ty.s28 1 rfl rfl rfl) <| ?_
    obtain ⟨G', hG, hx, hK⟩ := (K.mid (A := [_, _, _]) hK).pubO ho
    exact ⟨G', _, _, _, _, rfl, hG, hx, by omega, by omega, by omega, by omega, by omega, hK.drop1.drop1⟩
theorem l91Leases_c (hK : K e w G ((rb, row [cva, .int .i64 p] 98) :: L)) (hcode : BytS G cva code) (hlen : code.length ≤ 2000) (h0 : 0 ≤ p) (h1 : p ≤ 800000000) :
  Ret prog 77 #[.pointer (some ⟨rb, 0, none⟩)] w (fun r w' => ∃ G' ls p', VLe G G' ∧ LeaS G' r ls ∧ ls.length ≤ 12 ∧ p ≤ p' ∧ p' ≤ p + 50 ∧ K e w' G' ((rb, row [cva, .int .i64 p'] 98) :: L)) := by
 refine enter1 (args := [.pointer (some ⟨rb, 0, none⟩)]) func77 rfl rfl rfl rfl ?_
 refine sq <| rg <| ?_
 refine vl asg <| nl <| thn <| sq <| rg <| ?_
 refine bs0 hK underlying24 Ty.i105 ?_
 intro b8 w hK
 refine vl asg <| nl <| thn <| sq <| rg <| vl mv <| ?_
 refine cl call32 rfl (pickJ_c 1 hK rfl hcode hlen om om om) ?_
 rintro _ w ⟨⟨k10, rfl, hk10, hkn10⟩, hK⟩
 refine vl (ad rfl rfl) <| vl (aI rfl) <| nl <| thn <| sq <| sq <| rg <| vl mv <| ?_
 refine cl call32 rfl (pickJ_c 1 hK rfl hcode hlen om om om) ?_
 rintro _ w ⟨⟨k13, rfl, hk13, hkn13⟩, hK⟩
 refine vl (eq rfl rfl) <| nl <| thn <| ?_
 replace hK := K.mid (A := [(b8, _)]) (B := [_]) hK
 refine ct (σ := Int × Int) (fun s => [(0, .pointer (some ⟨rb, 0, none⟩)), (3, .slice (some ⟨b8, 0, none⟩) 0 0), (4, .int .i64 s.1)]) (fun s w => 1 ≤ s.1 ∧ s.1 ≤ 12 ∧ s.2 ≤ p + 3 ∧ p ≤ s.2 ∧ K e w G ((rb, row [cva, .int .i64 s.2] 98) :: ([(b8, row [] 105)] ++ L))) ?_ ?_
 ·skip
  refine cdP rfl (fun hx => ?_) fun hx => ?_
  ·refine rg <| ?_
   refine vl mv <| ?_
   refine cl call32 rfl (pickN_c hK hcode hlen om om om) ?_
   rintro _ w ⟨⟨k16, rfl, hk16, hkn16⟩, hK⟩
   refine vl (ad rfl rfl) <| vl (aI rfl) <| nl <| ctn <| ?_
   exact ⟨(_, _), ⟨rfl, rfl, rfl, trivial⟩, by simp only; omega, by simp only; omega, by simp only; omega, by simp only; omega, hK⟩
  ·refine sk <| ctn <| ?_
   exact ⟨(_, _), ⟨rfl, rfl, rfl, trivial⟩, by simp only; omega, by simp only; omega, by simp only; omega, by simp only; omega, hK⟩
 ·rintro ⟨n, q⟩ g w ⟨n1, n2, q1, q2, hK⟩
  refine thn <| sq <| rg <| ?_
  refine vl (aI rfl) <| nl <| thn <| sq <| sq <| rg <| vl (aI rfl) <| nl <| thn <| bk <| ?_
  simp only at n1 n2 q1 q2 hK
  have hq64 := q64 n1 n2
  refine lp (σ := Nat × Int × Int × Value × List Ls × Own) (fun s => [(0, .pointer (some ⟨rb, 0, none⟩)), (3, s.2.2.2.1), (4, .int .i64 n), (5, .int .i64 s.2.2.1), (6, .int .i64 (s.1 : Int))]) (fun s w => (s.1 : Int) ≤ n ∧ s.2.1 = q + 3 * s.1 ∧ (-1 ≤ s.2.2.1 ∧ s.2.2.1 ≤ 65 * s.1) ∧ s.2.2.2.2.1.length = s.1 ∧ OS 3 105 s.2.2.2.1 s.2.2.2.2.1.length (s.2.2.2.2.1.flatMap lc) s.2.2.2.2.2 ∧ K e w G ((rb, row [cva, .int .i64 s.2.1] 98) :: (s.2.2.2.2.2 ++ L))) (fun s => n.toNat - s.1) (0, q, -1, .slice (some ⟨b8, 0, none⟩) 0 0, [], [(b8, row [] 105)]) ⟨rfl, rfl, rfl, rfl, rfl, trivial⟩ ⟨by simp only; omega, by simp, by simp, rfl, OS.none, hK⟩ ?_
  rintro ⟨i, q', en, v, ls, A⟩ g w ⟨hi, hq, he, hz, ho, hK⟩
  simp only at hi hq he hz ho hK
  refine sq <| sq <| rg <| ?_
  refine vl (mI rfl) <| vl (mI rfl) <| vl (lt rfl rfl) <| nl <| thn <| ?_
  refine cdP rfl (fun hc => ?_) fun hc => ?_
  ·have hi' : (i : Int) < n := by simp only at hc; omega
   refine sk <| thn <| sq <| bk <| sq <| rg <| ?_
   refine vl (mI rfl) <| vl (ad rfl rfl) <| vl mv <| vl (mI rfl) <| vl (qu rfl rfl om om om) <| ?_
   refine cl call32 rfl (pickN_c hK hcode hlen om om om) ?_
   rintro _ w ⟨⟨k28, rfl, hk28, hkn28⟩, hK⟩
   refine vl (ad rfl rfl) <| vl (aI rfl) <| nl <| thn <| rg <| vl mv <| vl (mI rfl) <| vl (mn rfl rfl) <| vl mv <| ?_
   refine cl call32 rfl (pickN_c hK hcode hlen om om om) ?_
   rintro _ w ⟨⟨k34, rfl, hk34, hkn34⟩, hK⟩
   refine vl (ml rfl rfl) <| vl mv <| ?_
   refine cl call32 rfl (pickN_c hK hcode hlen om om om) ?_
   rintro _ w ⟨⟨k37, rfl, hk37, hkn37⟩, hK⟩
   refine vl (ml rfl rfl) <| vl (bd [(0, _), (1, _), (2, _)] Ty.p105 Ty.i105 rfl ⟨⟨rfl, rfl⟩, ⟨rfl, rfl⟩, ⟨rfl, rfl⟩, trivial⟩ rfl) <| ?_
   refine bsS1 hK underlying24 Ty.i105 rfl rfl rfl rfl rfl rfl ?_
   intro b40 w hK
   replace hK := hK.midc (A := [_])
   refine apE1 (c := lc) (k := (min (en + 1 + k28) 63, 10 * k34, 10 * k37)) (fun _ => rfl) rfl hK underlying24 Ty.i105 rfl rfl rfl ho rfl om fun v' A' w ho hK => ?_
   replace hK := K.mid (B := [_]) hK
   refine vl asg <| nl <| bkn <| thn <| rg <| vl (mI rfl) <| vl (ad rfl rfl) <| vl (aI rfl) <| nl <| thn <| ?_
   exact ⟨(i + 1, _, _, v', _, A'), ⟨rfl, rfl, rfl, rfl, rfl, trivial⟩, ⟨by simp only; omega, by simp only; omega, ⟨by simp only; omega, by simp only; omega⟩, by rw [List.length_append, List.length_singleton]; simp only; omega, ho, hK⟩, by simp only; omega⟩
  ·have hi' : (i : Int) = n := by simp only at hc; omega
   refine ex <| the <| the <| bkh <| thn <| sq <| rg <| ?_
   refine vl mv <| vl (mI rfl) <| ?_
   refine cl call32 rfl (pickN_c hK hcode hlen om om om) ?_
   rintro _ w ⟨⟨k44, rfl, hk44, hkn44⟩, hK⟩
   refine vl (aI rfl) <| nl <| thn <| sq <| sq <| rg <| vl mv <| ?_
   refine cl call32 rfl (pickN_c hK hcode hlen om om om) ?_
   rintro _ w ⟨⟨k46, rfl, hk46, hkn46⟩, hK⟩
   refine nl <| thn <| bk <| sq <| rg <| vl (eq rfl rfl) <| vl (aB rfl) <| nl <| thn <| ?_
   obtain ⟨km, rfl⟩ : ∃ m : Nat, k44 = m := ⟨k44.toNat, by omega⟩
   have hkm : km < ls.length := by omega
   refine cdP rfl (fun hx => ?_) fun hx => ?_
   ·skip
    refine rg <| ?_
    refine vl mv <| vl (mI rfl) <| vl mv <| ?_
    refine cl call74 rfl (l91Point_c hK hcode hlen om om) ?_
    rintro _ w ⟨k52, p52, rfl, hk52, hkn52, hp52, hq52, hK⟩
    refine vl (ixn underlying24 Ty.s105 rfl ho.slw rfl om) <| vl (fe underlying105 rfl Ty.z3 rfl ho.slw om) <| ?_
    replace hK := K.mid1 (x := (rb, _)) hK
    refine osSetC (u := .int .i64 k52) (i := km * 3 + 0) hK ho om Ty.i3 rfl rfl rfl rfl fun A' w ho hK => ?_
    rw [flat_set (c := lc) (sz := 3) (fun _ => rfl) ls km 0 ls[km] (k52, ls[km].2) _ (List.getElem?_eq_getElem (by omega)) (by omega) rfl] at ho
    refine nl <| bkn <| thn <| sq <| rg <| vl mv <| vl asg <| nl <| thn <| rt <| p1r (a := _) rfl <| ?_
    obtain ⟨G', hG, hx, hK⟩ := K.pubE (c := lc) (sz := 3) (xs := ls.set km (k52, ls[km].2)) (fun _ => rfl) hK (by rw [List.length_set]; exact ho)
    exact ⟨G', _, _, hG, hx, by rw [List.length_set]; omega, by omega, by omega, hK⟩
   ·refine sq <| rg <| ?_
    refine vl (eq rfl rfl) <| vl (aB rfl) <| nl <| thn <| ?_
    refine cdP rfl (fun hy => ?_) fun hy => ?_
    ·skip
     refine rg <| ?_
     refine vl mv <| vl (mI rfl) <| vl mv <| ?_
     refine cl call74 rfl (l91Point_c hK hcode hlen om om) ?_
     rintro _ w ⟨k60, p60, rfl, hk60, hkn60, hp60, hq60, hK⟩
     refine vl (ixn underlying24 Ty.s105 rfl ho.slw rfl om) <| vl (fe underlying105 rfl Ty.z3 rfl ho.slw om) <| ?_
     replace hK := K.mid1 (x := (rb, _)) hK
     refine osSetC (u := .int .i64 k60) (i := km * 3 + 1) hK ho om Ty.i3 rfl rfl rfl rfl fun A' w ho hK => ?_
     rw [flat_set (c := lc) (sz := 3) (fun _ => rfl) ls km 1 ls[km] (ls[km].1, k60, ls[km].2.2) _ (List.getElem?_eq_getElem (by omega)) (by omega) rfl] at ho
     refine nl <| bkn <| thn <| sq <| rg <| vl mv <| vl asg <| nl <| thn <| rt <| p1r (a := _) rfl <| ?_
     obtain ⟨G', hG, hx, hK⟩ := K.pubE (c := lc) (sz := 3) (xs := ls.set km (ls[km].1, k60, ls[km].2.2)) (fun _ => rfl) hK (by rw [List.length_set]; exact ho)
     exact ⟨G', _, _, hG, hx, by rw [List.length_set]; omega, by omega, by omega, hK⟩
    ·refine sq <| rg <| ?_
     refine vl (eq rfl rfl) <| vl (aB rfl) <| nl <| thn <| ?_
     refine cdP rfl (fun hz2 => ?_) fun hz2 => ?_
     ·skip
      refine rg <| ?_
      refine vl mv <| vl (mI rfl) <| vl mv <| ?_
      refine cl call75 rfl (l91Time_c hK hcode hlen om om) ?_
      rintro _ w ⟨k68, p68, rfl, hp68, hq68, hK⟩
      refine vl (ixn underlying24 Ty.s105 rfl ho.slw rfl om) <| vl (fe underlying105 rfl Ty.z3 rfl ho.slw om) <| ?_
      replace hK := K.mid1 (x := (rb, _)) hK
      refine osSetC (u := .int .i64 k68) (i := km * 3 + 2) hK ho om Ty.i3 rfl rfl rfl rfl fun A' w ho hK => ?_
      rw [flat_set (c := lc) (sz := 3) (fun _ => rfl) ls km 2 ls[km] (ls[km].1, ls[km].2.1, k68) _ (List.getElem?_eq_getElem (by omega)) (by omega) rfl] at ho
      refine nl <| bkn <| thn <| sq <| rg <| vl mv <| vl asg <| nl <| thn <| rt <| p1r (a := _) rfl <| ?_
      obtain ⟨G', hG, hx, hK⟩ := K.pubE (c := lc) (sz := 3) (xs := ls.set km (ls[km].1, ls[km].2.1, k68)) (fun _ => rfl) hK (by rw [List.length_set]; exact ho)
      exact ⟨G', _, _, hG, hx, by rw [List.length_set]; omega, by omega, by omega, hK⟩
     ·refine sq <| rg <| ?_
      refine vl (eq rfl rfl) <| vl (aB rfl) <| nl <| thn <| ?_
      refine cdP rfl (fun hz3 => ?_) fun hz3 => ?_
      ·refine rg <| ?_
       refine vl mv <| vl mv <| ?_
       refine cl call32 rfl (pickN_c hK hcode hlen om om om) ?_
       rintro _ w ⟨⟨k75, rfl, hk75, hkn75⟩, hK⟩
       obtain ⟨m, rfl⟩ : ∃ m : Nat, k75 = m := ⟨k75.toNat, by omega⟩
       refine vl (slHi (h := m) underlying24 Ty.s105 rfl ho.slw rfl om) <| vl asg <| nl <| bkn <| thn <| sq <| rg <| vl mv <| vl asg <| nl <| thn <| rt <| p1r (a := _) rfl <| ?_
       obtain ⟨G', hG, hx, hK⟩ := K.pubE (c := lc) (sz := 3) (xs := ls) (fun _ => rfl) (K.mid1 (x := (rb, _)) hK) ho
       exact ⟨G', _, _, hG, SlR.slc hx (l := 0) (h := m) (by omega) (by omega), by rw [List.length_drop, List.length_take]; omega, by omega, by omega, hK⟩
      ·refine sk <| bkn <| thn <| sq <| rg <| ?_
       refine vl mv <| vl asg <| nl <| thn <| rt <| p1r (a := _) rfl <| ?_
       obtain ⟨G', hG, hx, hK⟩ := K.pubE (c := lc) (sz := 3) (xs := ls) (fun _ => rfl) (K.mid1 (x := (rb, _)) hK) ho
       exact ⟨G', _, _, hG, hx, by omega, by omega, by omega, hK⟩
end
open Go Go.Ro Tryz
section
variable {e w : World} {G : View} {L A : Own} {v u t t2 : Value} {xs ys ks ts us : List Int} {ls ms : List Ls} {n m k : Int}
end
end Go.Proofs.YtmfolinemnlnbaaGreatDoor