/- Contracts of the functions on scans. Conditions: those that each row states. -/
import Derived.Test.YtmgggljicpmndaaGreatDoorSn
namespace Go.Proofs.YtmgggljicpmndaaGreatDoor
open Go Go.Ro Tryz
section
variable {e w : World} {G : View} {L A : Own} {v u t : Value} {xs ys ks ts : List Int} {ls : List Ls} {n : Int}
theorem reverse_c (hK : K e w G (A ++ L)) (ho : OS 1 3 v xs.length (ints xs) A) (hle : xs.length ≤ 1000000000) :
  Ret prog 201 #[v] w (fun r w' => r = .tuple #[] ∧ ∃ A', OS 1 3 v xs.length (ints xs.reverse) A' ∧ K e w' G (A' ++ L)) := by
 refine enter0 (args := [v]) func201 rfl rfl rfl rfl ?_
 refine sq <| rg <| ?_
 refine vl mv <| vl (ln underlying22 rfl ho.len) <| vl (sb rfl rfl) <| vl (aI rfl) <| vl (aI rfl) <| nl <| thn <| bk <| ?_
 refine lp (σ := Nat × List Int × Own) (fun s => [(0, v), (2, .int .i64 (s.1 : Int)), (3, .int .i64 ((xs.length : Int) - 1 - (s.1 : Int)))]) (fun s w => s.1 ≤ xs.length ∧ Swapped xs s.1 s.2.1 ∧ OS 1 3 v xs.length (ints s.2.1) s.2.2 ∧ K e w G (s.2.2 ++ L)) (fun s => xs.length - s.1) (0, xs, A) ⟨rfl, rfl, (by show Value.int .i64 ((xs.length : Int) - 1) = Value.int .i64 ((xs.length : Int) - 1 - ((0 : Nat) : Int)); simp), trivial⟩ ⟨Nat.zero_le _, Swapped.zero xs, ho, hK⟩ ?_
 rintro ⟨i, ys, A⟩ g w ⟨hi, hs, ho, hK⟩
 simp only at hi hs ho hK
 refine sq <| sq <| rg <| ?_
 refine vl (mI rfl) <| vl (mI rfl) <| vl (lt rfl rfl) <| nl <| thn <| ?_
 refine cdP rfl (fun hc => ?_) fun hc => ?_
 ·have hi' : i < xs.length - 1 - i := by simp only at hc; omega
  have hly := hs.1
  refine sk <| thn <| sq <| bk <| ?_
  refine rgt (fun w => K _ w _ _) [U,U,U,U,U,U,U,U,U,U,U,U,U,U,U,U] 16 Ty.mixed rfl rfl (hK.drawn _) ?_
  intro w hK
  refine xt (i := 0) rfl kr rfl rfl (fun w _ => mv) trivial <| xt (i := 1) rfl kr rfl rfl (fun w _ => (mI rfl)) trivial <| xt (i := 2) rfl kr rfl rfl (fun w _ => mv) trivial <| xt (i := 3) rfl kr rfl rfl (fun w _ => (mI rfl)) trivial <| xt (i := 4) rfl kr rfl rfl (fun w _ => mv) trivial <| xt (i := 5) rfl kr rfl rfl (fun w _ => (mI rfl)) trivial <| xt (i := 6) rfl kr rfl rfl (fun w _ => (ixm1 (m := xs.length - 1 - i) underlying22 Ty.s3 rfl ho.slw rfl (by simp only; omega) om)) trivial <| xt (i := 8) rfl kr rfl rfl (fun w _ => mv) trivial <| xt (i := 9) rfl kr rfl rfl (fun w _ => (mI rfl)) trivial <| xt (i := 10) rfl kr rfl rfl (fun w _ => (ixm1 (m := i) underlying22 Ty.s3 rfl ho.slw rfl rfl om)) trivial <| ?_
  refine xe2 (i := 7) (j := 11) kr rfl rfl rfl rfl ?_ ?_
  ·refine vl (ldC Ty.o3 rfl (ho.cell hK (ints_get om))) <| ?_
   refine xn (fun _ => True) trivial (fun _ _ => trivial) ?_
   refine xe (i := 11) kr rfl rfl ?_
   refine vl (ldC Ty.o3 rfl (ho.cell hK (ints_get om))) <| ?_
   refine xn (fun _ => True) trivial (fun _ _ => trivial) ?_
   refine xt (i := 12) rfl kr rfl rfl (fun w _ => (ixm1 (m := i) underlying22 Ty.s3 rfl ho.slw rfl rfl om)) trivial <| ?_
   refine xe (i := 13) kr rfl rfl ?_
   refine osSet hK ho (i := i) (u := .int .i64 (ys.getD (xs.length - 1 - i) 0)) om Ty.i3 rfl rfl rfl rfl fun A' w ho hK => ?_
   rw [ints_set] at ho
   refine xn (fun _ => True) trivial (fun _ _ => trivial) ?_
   refine xt (i := 14) rfl kr rfl rfl (fun w _ => (ixm1 (m := xs.length - 1 - i) underlying22 Ty.s3 rfl ho.slw rfl (by simp only; omega) om)) trivial <| ?_
   refine xe (i := 15) kr rfl rfl ?_
   refine osSet hK ho (i := xs.length - 1 - i) (u := .int .i64 (ys.getD i 0)) om Ty.i3 rfl rfl rfl rfl fun A' w ho hK => ?_
   rw [ints_set] at ho
   refine xn (fun _ => True) trivial (fun _ _ => trivial) ?_
   refine xd kr <| bkn <| thn <| rg <| vl (mI rfl) <| vl (ad rfl rfl) <| vl (mI rfl) <| vl (sb rfl rfl) <| vl (aI rfl) <| vl (aI rfl) <| nl <| thn <| ?_
   refine ⟨(i + 1, _, A'), ⟨rfl, rfl, ?_, trivial⟩, ⟨by simp only; omega, hs.step rfl hi', ho, hK⟩, by simp only; omega⟩
   show Value.int .i64 ((xs.length : Int) - 1 - (i : Int) - 1) = Value.int .i64 ((xs.length : Int) - 1 - ((i + 1 : Nat) : Int))
   congr 1; omega
  ·refine vl (ldC Ty.o3 rfl (ho.cell hK (ints_get om))) <| ?_
   refine xn (fun _ => True) trivial (fun _ _ => trivial) ?_
   refine xe (i := 7) kr rfl rfl ?_
   refine vl (ldC Ty.o3 rfl (ho.cell hK (ints_get om))) <| ?_
   refine xn (fun _ => True) trivial (fun _ _ => trivial) ?_
   refine xt (i := 12) rfl kr rfl rfl (fun w _ => (ixm1 (m := i) underlying22 Ty.s3 rfl ho.slw rfl rfl om)) trivial <| ?_
   refine xe (i := 13) kr rfl rfl ?_
   refine osSet hK ho (i := i) (u := .int .i64 (ys.getD (xs.length - 1 - i) 0)) om Ty.i3 rfl rfl rfl rfl fun A' w ho hK => ?_
   rw [ints_set] at ho
   refine xn (fun _ => True) trivial (fun _ _ => trivial) ?_
   refine xt (i := 14) rfl kr rfl rfl (fun w _ => (ixm1 (m := xs.length - 1 - i) underlying22 Ty.s3 rfl ho.slw rfl (by simp only; omega) om)) trivial <| ?_
   refine xe (i := 15) kr rfl rfl ?_
   refine osSet hK ho (i := xs.length - 1 - i) (u := .int .i64 (ys.getD i 0)) om Ty.i3 rfl rfl rfl rfl fun A' w ho hK => ?_
   rw [ints_set] at ho
   refine xn (fun _ => True) trivial (fun _ _ => trivial) ?_
   refine xd kr <| bkn <| thn <| rg <| vl (mI rfl) <| vl (ad rfl rfl) <| vl (mI rfl) <| vl (sb rfl rfl) <| vl (aI rfl) <| vl (aI rfl) <| nl <| thn <| ?_
   refine ⟨(i + 1, _, A'), ⟨rfl, rfl, ?_, trivial⟩, ⟨by simp only; omega, hs.step rfl hi', ho, hK⟩, by simp only; omega⟩
   show Value.int .i64 ((xs.length : Int) - 1 - (i : Int) - 1) = Value.int .i64 ((xs.length : Int) - 1 - ((i + 1 : Nat) : Int))
   congr 1; omega
 ·refine ex <| the <| the <| bkh <| p0n <| ?_
  have := hs.done (by simp only at hc; omega)
  subst this
  exact ⟨rfl, A, ho, hK⟩
theorem clone_c (hK : K e w G L) (hv : IntS G v xs) (hle : xs.length ≤ 1000000000) :
  Ret prog 95 #[v] w (fun r w' => ∃ A, OS 1 3 r xs.length (ints xs) A ∧ K e w' G (A ++ L)) := by
 refine enter1 (args := [v]) func95 rfl rfl rfl rfl ?_
 refine sq <| rg <| ?_
 refine vl asg <| nl <| thn <| sq <| sq <| rg <| vl mv <| vl (eqSn underlying22 rfl hv.len rfl) <| nl <| thn <| ?_
 refine cdB rfl (fun h => ?_) fun h => ?_
 ·have hx : xs = [] := List.eq_nil_of_length_eq_zero (hv.1.nil_len h)
  subst hx
  refine sq <| rg <| ?_
  refine vl asg <| nl <| thn <| rt <| thr <| p1r (a := _) rfl <| ?_
  exact ⟨[], OS.nil _ _, hK⟩
 ·refine sk <| thn <| sq <| rg <| ?_
  refine bs0 hK underlying22 Ty.i3 ?_
  intro b5 w hK
  refine vl mv <| ?_
  refine apI (xs := []) (ys := xs) hK underlying22 Ty.i3 rfl rfl OS.none rfl hv (by simp; omega) fun v' A' w ho hK => ?_
  refine vl asg <| nl <| thn <| rt <| p1r (a := _) rfl <| ?_
  exact ⟨A', ho, hK⟩
theorem keys_c {q : Option Addr} (hK : K e w G L) (hc : ChV G (.pointer q) ks) (hle : ks.length ≤ 1000000) :
  Ret prog 167 #[.pointer q] w (fun r w' => ∃ A, OS 1 3 r ks.length (ints ks.reverse) A ∧ K e w' G (A ++ L)) := by
 refine enter1 (args := [.pointer q]) func167 rfl rfl rfl rfl ?_
 refine sq <| rg <| ?_
 refine vl asg <| nl <| thn <| sq <| rg <| vl asg <| nl <| thn <| sq <| bk <| ?_
 refine lp (σ := Option Addr × List Int × List Int × Value × Own) (fun s => [(0, .pointer s.1), (3, s.2.2.2.1)]) (fun s w => s.2.2.1 ++ s.2.1 = ks ∧ ChV G (.pointer s.1) s.2.1 ∧ OS 1 3 s.2.2.2.1 s.2.2.1.length (ints s.2.2.1) s.2.2.2.2 ∧ K e w G (s.2.2.2.2 ++ L)) (fun s => s.2.1.length) (q, ks, [], .slice none 0 0, []) ⟨rfl, rfl, trivial⟩ ⟨rfl, hc, OS.nil _ _, hK⟩ ?_
 rintro ⟨q, ks2, ks1, v, A⟩ g w ⟨hk, hc, ho, hK⟩
 simp only at hk hc ho hK
 refine sq <| sq <| rg <| ?_
 refine vl mv <| vl (nePn underlying170 rfl rfl) <| nl <| thn <| ?_
 refine cdB rfl (fun h => ?_) fun h => ?_
 ·obtain ⟨k, ks3, rfl⟩ : ∃ k l, ks2 = k :: l := by
   match ks2, hc with
   | [], hc => cases hc; cases h
   | k :: l, _ => exact ⟨k, l, rfl⟩
  obtain ⟨b, v', hq, hc1, hc2, hc3⟩ := hc
  cases hq
  obtain ⟨q', hq', _⟩ := hc3.ptr
  subst hq'
  have hlen : ks1.length + (ks3.length + 1) = ks.length := by rw [← hk]; simp
  refine sk <| thn <| sq <| bk <| rg <| ?_
  refine vl mv <| vl mv <| vl (nc rfl) <| vl (fa underlying172 rfl Ty.z3 rfl) <| vl (ldV hK Ty.o3 rfl hc1) <| ?_
  refine bsN [.tmp 14] hK underlying22 Ty.i3 rfl rfl rfl rfl rfl rfl rfl rfl ?_
  intro b15 w hK
  refine apI1 (xs := ks1) (k := k) hK underlying22 Ty.i3 rfl rfl ho rfl om fun v' A' w ho hK => ?_
  refine vl asg <| nl <| bkn <| thn <| rg <| vl mv <| vl (nc rfl) <| vl (fa underlying172 rfl Ty.z170 rfl) <| vl (ldV hK Ty.o170 rfl hc2) <| vl asg <| nl <| thn <| ?_
  exact ⟨(q', ks3, ks1 ++ [k], v', A'), ⟨rfl, rfl, trivial⟩, ⟨by rw [← hk]; simp, hc3, ho, hK⟩, by simp⟩
 ·have hx : ks2 = [] := by
   obtain ⟨_, hq', h'⟩ := hc.ptr
   cases hq'
   refine Decidable.not_not.1 fun hn => ?_
   rw [h'.2 hn] at h; cases h
  subst hx
  rw [List.append_nil] at hk
  subst hk
  refine ex <| the <| the <| bkh <| thn <| sq <| rg <| ?_
  refine vl mv <| ?_
  refine cl call201 rfl (reverse_c hK ho om) ?_
  rintro _ w ⟨rfl, A', ho', hK⟩
  refine nl <| thn <| sq <| rg <| vl mv <| vl asg <| nl <| thn <| rt <| p1r (a := _) rfl <| ?_
  exact ⟨A', ho', hK⟩
theorem scanStep_c (hK : K e w G L) (hv : LeaS G v ls) (hk : IntS G u ks) (ht : IntS G t ts) (hl : LsOk ls) (ha : Asc ks) (hs : SnOk (n, ts)) (hn : n < 64) :
  Ret prog 126 #[v, u, .agg #[.int .i64 n, t]] w (fun r w' => ∃ t' A, r = .agg #[.int .i64 (stp ls ks (n, ts)).1, t'] ∧ OS 1 3 t' (stp ls ks (n, ts)).2.length (ints (stp ls ks (n, ts)).2) A ∧ K e w' G (A ++ L)) := by
 have hlt := lAt_lt (ls := ls) (k := n) (by have := hl.1; omega)
 have hat := lsAt_eq hlt
 have hpt := (hl.at hlt).1
 have hle := ht.le
 have hle2 := hk.le
 have hkl := ha.len
 have htl := hs.2.1.len
 simp only at htl
 have hn0 : 0 ≤ n := hs.1.1
 refine enterG1 (args := [v, u, .agg #[.int .i64 n, t]]) func126 rfl rfl rfl rfl ?_
 refine sq <| rg <| ?_
 refine bx hK rfl rfl ?_
 intro b5 w hK
 refine al hK Ty.i29 rfl ?_
 intro b6 w hK
 refine nl <| thn <| sq <| rg <| vl mv <| vl mv <| vl (fa underlying29 rfl Ty.z3 rfl) <| vl (ldO hK Ty.o3 1 rfl rfl rfl) <| ?_
 refine cl call166 rfl (leaseAt_c hK (by assumption)) ?_
 rintro _ w ⟨rfl, hK⟩
 refine vl (ixn underlying26 Ty.s101 rfl hv.1 rfl om) <| vl (fe underlying101 rfl Ty.z3 rfl hv.1 om) <| vl (ldV hK Ty.o3 rfl (hv.cell om 0 rfl)) <| vl (aI rfl) <| nl <| thn <| sq <| sq <| rg <| vl (mI rfl) <| vl (fa underlying29 rfl Ty.z3 rfl) <| vl (ldO hK Ty.o3 1 rfl rfl rfl) <| vl (lt rfl rfl) <| nl <| thn <| ?_
 refine ct (σ := Int) (fun z => [(1, u), (5, .pointer (some ⟨b5, 0, none⟩)), (6, .pointer (some ⟨b6, 0, none⟩)), (7, .int .i64 z)]) (fun z w => z = nx ls n - 1 ∧ K e w G ((b6, row [.int .i64 0, .slice none 0 0] 29) :: (b5, row [.int .i64 n, t] 29) :: L)) ?_ ?_
 ·refine cdP rfl (fun h => ?_) fun h => ?_
  ·refine rg <| ?_
   refine vl (aI rfl) <| nl <| ctn <| ?_
   exact ⟨_, ⟨rfl, rfl, rfl, rfl, trivial⟩, by rw [nx, if_neg (by rw [← hat]; omega)]; rfl, hK⟩
  ·refine sk <| ctn <| ?_
   exact ⟨_, ⟨rfl, rfl, rfl, rfl, trivial⟩, by rw [nx, if_pos (by rw [← hat]; omega), ← hat]; omega, hK⟩
 ·rintro z g w ⟨hz, hK⟩
  have hnx := nx_bd hl hn
  refine thn <| sq <| rg <| ?_
  refine vl asg <| nl <| thn <| sq <| sq <| rg <| vl (fa underlying29 rfl Ty.z22 rfl) <| vl (ldO hK Ty.o22 1 rfl rfl rfl) <| vl (ln underlying22 rfl ht.len) <| vl (mI rfl) <| nl <| thn <| bk <| ?_
  refine lp (σ := Nat × Value × View) (fun s => [(1, u), (5, .pointer (some ⟨b5, 0, none⟩)), (6, .pointer (some ⟨b6, 0, none⟩)), (7, .int .i64 z), (8, s.2.1), (26, t), (27, .int .i64 (ts.length : Int)), (28, .int .i64 (s.1 : Int))]) (fun s w => s.1 ≤ ts.length ∧ VLe G s.2.2 ∧ ChV s.2.2 s.2.1 (ts.take s.1).reverse ∧ K e w s.2.2 ((b6, row [.int .i64 0, .slice none 0 0] 29) :: (b5, row [.int .i64 n, t] 29) :: L)) (fun s => ts.length - s.1) (0, .pointer none, G) ⟨rfl, rfl, rfl, rfl, rfl, rfl, rfl, rfl, trivial⟩ ⟨Nat.zero_le _, VLe.refl _, rfl, hK⟩ ?_
  rintro ⟨i, p, G1⟩ g w ⟨hi, hG, hc, hK⟩
  simp only at hi hG hc hK
  replace ht := ht.mono hG
  refine sq <| rg <| ?_
  refine vl (lt rfl rfl) <| nl <| thn <| sq <| ?_
  refine cdP rfl (fun h1 => ?_) fun h1 => ?_
  ·have hi' : i < ts.length := by simp only at h1; omega
   refine sk <| thn <| sq <| bk <| sq <| rg <| ?_
   refine vl (ixn1 underlying22 Ty.s3 rfl ht.1 rfl om) <| vl (ldV hK Ty.o3 rfl (ht.at om)) <| vl (aI rfl) <| nl <| thn <| rg <| vl (mI rfl) <| vl mv <| vl (bd [(0, _), (1, _)] Ty.p172 Ty.i172 rfl ⟨⟨rfl, rfl⟩, ⟨rfl, one_cells hc.one⟩, trivial⟩ rfl) <| ?_
   refine bx hK rfl rfl ?_
   intro b35 w hK
   refine vl asg <| nl <| bkn <| thn <| rg <| vl (ad rfl rfl) <| vl (mI rfl) <| nl <| thn <| ?_
   obtain ⟨G2, hG2, hc2, hK⟩ := hK.link hc
   exact ⟨(i + 1, _, G2), ⟨rfl, rfl, rfl, rfl, rfl, rfl, rfl, rfl, trivial⟩, ⟨hi', hG.trans hG2, by rw [List.take_succ_eq_append_getElem hi', List.reverse_append]; exact hc2, hK⟩, by simp only; omega⟩
  ·have hi' : i = ts.length := by simp only at h1; omega
   subst hi'
   rw [List.take_length] at hc
   replace hk := hk.mono hG
   refine ex <| the <| the <| bkh <| thn <| sq <| sq <| rg <| ?_
   refine vl mv <| vl (ln underlying22 rfl hk.len) <| vl (mI rfl) <| nl <| thn <| bk <| ?_
   refine lp (σ := Nat × Value × View) (fun s => [(5, .pointer (some ⟨b5, 0, none⟩)), (6, .pointer (some ⟨b6, 0, none⟩)), (7, .int .i64 z), (8, s.2.1), (37, u), (38, .int .i64 (ks.length : Int)), (39, .int .i64 (s.1 : Int))]) (fun s w => s.1 ≤ ks.length ∧ VLe G1 s.2.2 ∧ ChV s.2.2 s.2.1 (ts ++ (ks.take s.1).filter fun k => decide (n ≤ k ∧ k < nx ls n)).reverse ∧ K e w s.2.2 ((b6, row [.int .i64 0, .slice none 0 0] 29) :: (b5, row [.int .i64 n, t] 29) :: L)) (fun s => ks.length - s.1) (0, p, G1) ⟨rfl, rfl, rfl, rfl, rfl, rfl, rfl, trivial⟩ ⟨Nat.zero_le _, VLe.refl _, by simpa using hc, hK⟩ ?_
   rintro ⟨i, p, G2⟩ g w ⟨hi, hG2, hc, hK⟩
   simp only at hi hG2 hc hK
   replace hk := hk.mono hG2
   refine sq <| rg <| ?_
   refine vl (lt rfl rfl) <| nl <| thn <| sq <| ?_
   refine cdP rfl (fun h2 => ?_) fun h2 => ?_
   ·have hi' : i < ks.length := by simp only at h2; omega
    have hft := filter_take_succ (p := fun k => decide (n ≤ k ∧ k < nx ls n)) hi'
    refine sk <| thn <| sq <| bk <| sq <| rg <| ?_
    refine vl (ixn1 underlying22 Ty.s3 rfl hk.1 rfl om) <| vl (ldV hK Ty.o3 rfl (hk.at om)) <| vl (aI rfl) <| nl <| thn <| sq <| rg <| vl (mI rfl) <| vl (fa underlying29 rfl Ty.z3 rfl) <| vl (ldO hK Ty.o3 1 rfl rfl rfl) <| vl (mI rfl) <| ?_
    refine cl call89 rfl (inRange_c (C := fun w => K _ w _ _) hK) ?_
    rintro _ w ⟨rfl, hK⟩
    refine nl <| thn <| ?_
    refine cdP rfl (fun h3 => ?_) fun h3 => ?_
    ·try simp only at h3
     refine rg <| ?_
     refine vl (mI rfl) <| vl mv <| vl (bd [(0, _), (1, _)] Ty.p172 Ty.i172 rfl ⟨⟨rfl, rfl⟩, ⟨rfl, one_cells hc.one⟩, trivial⟩ rfl) <| ?_
     refine bx hK rfl rfl ?_
     intro b51 w hK
     refine vl asg <| nl <| bkn <| thn <| rg <| vl (ad rfl rfl) <| vl (mI rfl) <| nl <| thn <| ?_
     obtain ⟨G3, hG3, hc3, hK⟩ := hK.link hc
     refine ⟨(i + 1, _, G3), ⟨rfl, rfl, rfl, rfl, rfl, rfl, rfl, trivial⟩, ⟨hi', hG2.trans hG3, ?_, hK⟩, by simp only; omega⟩
     rw [hft, if_pos (decide_eq_true (by omega)), ← List.append_assoc, List.reverse_append]; exact hc3
    ·try simp only at h3
     refine sk <| bkn <| thn <| rg <| ?_
     refine vl (ad rfl rfl) <| vl (mI rfl) <| nl <| thn <| ?_
     refine ⟨(i + 1, p, G2), ⟨rfl, rfl, rfl, rfl, rfl, rfl, rfl, trivial⟩, ⟨hi', hG2, ?_, hK⟩, by simp only; omega⟩
     rw [hft, if_neg (by rw [decide_eq_true_eq]; omega), List.append_nil]; exact hc
   ·have hi' : i = ks.length := by simp only at h2; omega
    subst hi'
    rw [List.take_length] at hc
    obtain ⟨q, rfl, _⟩ := hc.ptr
    have hlen : (ks.filter fun k => decide (n ≤ k ∧ k < nx ls n)).length ≤ ks.length := List.length_filter_le _ _
    refine ex <| the <| the <| bkh <| thn <| sq <| rg <| ?_
    refine vl (mI rfl) <| vl (ad rfl rfl) <| vl mv <| ?_
    refine cl call167 rfl (keys_c hK hc (by rw [List.length_reverse, List.length_append]; omega)) ?_
    rintro t56 w ⟨A, ho, hK⟩
    rw [List.reverse_reverse, List.length_reverse] at ho
    replace hK := K.mid (B := [_, _]) hK
    refine vl (bd [(0, _), (1, _)] Ty.p29 Ty.i29 rfl ⟨⟨rfl, rfl⟩, ⟨rfl, one_cells ho.one⟩, trivial⟩ rfl) <| ?_
    refine soS hK Ty.i29 0 rfl rfl rfl rfl (allc rfl (allc ho.one rfl)) rfl ?_
    intro w hK
    refine nl <| thn <| rt <| pg1r (rvS hK Ty.a29 Ty.s29 0 rfl rfl rfl) <| ?_
    refine ⟨_, A, ?_, ho, (hK.drop1.drop1).vle (hG.trans hG2)⟩
    show Value.agg #[.int .i64 (z + 1), t56] = _
    rw [hz, show nx ls n - 1 + 1 = nx ls n by omega]; rfl
theorem l41New_c (hK : K e w G L) : Ret prog 55 #[] w (fun r w' => ∃ t' A, r = .agg #[.int .i64 0, t'] ∧ OS 1 3 t' 0 (ints []) A ∧ K e w' G (A ++ L)) := by
 refine enterG1 (args := []) func55 rfl rfl rfl rfl ?_
 refine sq <| rg <| ?_
 refine al hK Ty.i29 rfl ?_
 intro b0 w hK
 refine nl <| thn <| sq <| rg <| ?_
 refine bs0 hK underlying22 Ty.i3 ?_
 intro b1 w hK
 refine vl (bd [(1, _)] Ty.p29 Ty.i29 rfl ⟨⟨rfl, rfl⟩, trivial⟩ rfl) <| ?_
 refine soS hK Ty.i29 1 rfl rfl rfl rfl rfl rfl ?_
 intro w hK
 refine nl <| thn <| rt <| pg1r (rvS hK Ty.a29 Ty.s29 1 rfl rfl rfl) <| ?_
 exact ⟨_, [_], rfl, OS.none, hK.perm (List.Perm.swap _ _ _) |>.drop1⟩
theorem l41Step_c (hK : K e w G L) (hv : LeaS G v ls) (hk : IntS G u ks) (ht : IntS G t ts) (hl : LsOk ls) (ha : Asc ks) (hs : SnOk (n, ts)) (hn : n < 64) :
  Ret prog 106 #[v, u, .agg #[.int .i64 n, t]] w (fun r w' => ∃ t' A, r = .agg #[.int .i64 (stp ls ks (n, ts)).1, t'] ∧ OS 1 3 t' (stp ls ks (n, ts)).2.length (ints (stp ls ks (n, ts)).2) A ∧ K e w' G (A ++ L)) := by
 have hlt := lAt_lt (ls := ls) (k := n) (by have := hl.1; omega)
 have hat := lsAt_eq hlt
 have hpt := (hl.at hlt).1
 have hle := ht.le
 have hle2 := hk.le
 have hkl := ha.len
 have htl := hs.2.1.len
 simp only at htl
 have hn0 : 0 ≤ n := hs.1.1
 have hnx := nx_bd hl hn
 refine enterG1 (args := [v, u, .agg #[.int .i64 n, t]]) func106 rfl rfl rfl rfl ?_
 refine sq <| rg <| ?_
 refine bx hK rfl rfl ?_
 intro b5 w hK
 refine al hK Ty.i29 rfl ?_
 intro b6 w hK
 refine nl <| thn <| sq <| rg <| ?_
 refine bs0 hK underlying22 Ty.i3 ?_
 intro b10 w hK
 refine vl (fa underlying29 rfl Ty.z22 rfl) <| vl (ldO hK Ty.o22 2 rfl rfl rfl) <| ?_
 refine apI (xs := []) (ys := ts) (A := [(b10, _)]) hK underlying22 Ty.i3 rfl rfl OS.none rfl ht (by simp; omega) fun v13 A w ho hK => ?_
 replace hK := K.mid (B := [_, _]) hK
 refine vl (bd [(0, _), (1, _)] Ty.p29 Ty.i29 rfl ⟨⟨rfl, rfl⟩, ⟨rfl, one_cells ho.one⟩, trivial⟩ rfl) <| ?_
 refine al hK Ty.i29 rfl ?_
 intro b7 w hK
 refine soS hK Ty.i29 0 rfl rfl rfl rfl (allc rfl (allc ho.one rfl)) rfl ?_
 intro w hK
 refine nl <| thn <| sq <| rg <| vl mv <| vl mv <| vl (fa underlying29 rfl Ty.z3 rfl) <| vl (ldO hK Ty.o3 2 rfl rfl rfl) <| ?_
 refine cl call141 rfl (l12At_c hK (by assumption)) ?_
 rintro _ w ⟨rfl, hK⟩
 refine vl (ixn underlying26 Ty.s101 rfl hv.1 rfl om) <| vl (lsF hK Ty.a101 Ty.s101 rfl hv om) <| ?_
 refine al hK Ty.i101 rfl ?_
 intro b8 w hK
 refine soS hK Ty.i101 0 rfl rfl rfl rfl rfl rfl ?_
 intro w hK
 refine nl <| thn <| sq <| sq <| rg <| vl (fa underlying101 rfl Ty.z3 rfl) <| vl (ldO hK Ty.o3 0 rfl rfl rfl) <| vl (fa underlying29 rfl Ty.z3 rfl) <| vl (ldO hK Ty.o3 3 rfl rfl rfl) <| vl (ge rfl rfl) <| nl <| thn <| ?_
 refine ct (σ := Unit) (fun _ => [(1, u), (5, .pointer (some ⟨b5, 0, none⟩)), (6, .pointer (some ⟨b6, 0, none⟩)), (7, .pointer (some ⟨b7, 0, none⟩))]) (fun _ w => K e w G ((b7, row [.int .i64 (nx ls n), v13] 29) :: (b6, row [.int .i64 0, .slice none 0 0] 29) :: (b5, row [.int .i64 n, t] 29) :: (A ++ L))) ?_ ?_
 ·refine cdP rfl (fun h => ?_) fun h => ?_
  ·refine rg <| ?_
   refine vl (fa underlying101 rfl Ty.z3 rfl) <| vl (ldO hK Ty.o3 0 rfl rfl rfl) <| vl (ad rfl rfl) <| vl (fa underlying29 rfl Ty.z3 rfl) <| ?_
   refine so hK Ty.i3 rfl 1 rfl rfl rfl rfl rfl ?_
   intro w hK
   refine nl <| ctn <| ?_
   refine ⟨(), ⟨rfl, rfl, rfl, rfl, trivial⟩, ?_⟩
   rw [nx, if_pos (by rw [← hat]; exact h), ← hat]; exact hK.drop1
  ·refine sk <| ctn <| ?_
   refine ⟨(), ⟨rfl, rfl, rfl, rfl, trivial⟩, ?_⟩
   rw [nx, if_neg (by rw [← hat]; exact h)]; exact hK.drop1
 ·rintro _ g w hK
  refine thn <| sq <| sq <| rg <| ?_
  refine vl (aI rfl) <| nl <| thn <| bk <| ?_
  refine lp (σ := Nat × Value × Own) (fun s => [(1, u), (5, .pointer (some ⟨b5, 0, none⟩)), (6, .pointer (some ⟨b6, 0, none⟩)), (7, .pointer (some ⟨b7, 0, none⟩)), (9, .int .i64 (s.1 : Int))]) (fun s w => s.1 ≤ ks.length ∧ OS 1 3 s.2.1 (ts ++ (ks.take s.1).filter fun k => decide (n ≤ k ∧ k < nx ls n)).length (ints (ts ++ (ks.take s.1).filter fun k => decide (n ≤ k ∧ k < nx ls n))) s.2.2 ∧ K e w G ((b7, row [.int .i64 (nx ls n), s.2.1] 29) :: (b6, row [.int .i64 0, .slice none 0 0] 29) :: (b5, row [.int .i64 n, t] 29) :: (s.2.2 ++ L))) (fun s => ks.length - s.1) (0, v13, A) ⟨rfl, rfl, rfl, rfl, rfl, trivial⟩ ⟨Nat.zero_le _, by simpa using ho, hK⟩ ?_
  rintro ⟨i, v1, A1⟩ g w ⟨hi, ho, hK⟩
  simp only at hi ho hK
  refine sq <| sq <| rg <| ?_
  refine vl (mI rfl) <| vl mv <| vl (ln underlying22 rfl hk.len) <| vl (lt rfl rfl) <| nl <| thn <| ?_
  refine cdP rfl (fun hc => ?_) fun hc => ?_
  ·have hi' : i < ks.length := by simp only at hc; omega
   have hft := filter_take_succ (p := fun k => decide (n ≤ k ∧ k < nx ls n)) hi'
   have hfl : ((ks.take i).filter fun k => decide (n ≤ k ∧ k < nx ls n)).length ≤ ks.length := Nat.le_trans (List.length_filter_le _ _) (by rw [List.length_take]; omega)
   refine sk <| thn <| sq <| bk <| sq <| ?_
   refine rgq (fun w => K _ w _ _) Ty.mixed kr (hK.drawn _) ?_
   refine qv (fun w hK => mv) <| qv (fun w hK => (mI rfl)) <| qv (fun w hK => (ixn1 underlying22 Ty.s3 rfl hk.1 rfl om)) <| qldV Ty.o3 rfl (hk.at om) <| qv (fun w hK => (fa underlying29 rfl Ty.z3 rfl)) <| qldO Ty.o3 2 rfl rfl rfl <| qv (fun w hK => (ge rfl rfl)) <| qv (fun w hK => (mB rfl)) <| ?_
   refine qsplP (t := 44) rfl (fun h1 => ?_) fun h1 => ?_
   ·try simp only at h1
    refine qgy rfl <| qv (fun w hK => mv) <| qgy rfl <| qv (fun w hK => (mI rfl)) <| qgy rfl <| qv (fun w hK => (ixn1 underlying22 Ty.s3 rfl hk.1 rfl om)) <| qgy rfl <| qldV Ty.o3 rfl (hk.at om) <| qgy rfl <| qv (fun w hK => (fa underlying29 rfl Ty.z3 rfl)) <| qgy rfl <| qldO Ty.o3 0 rfl rfl rfl <| qgy rfl <| qv (fun w hK => (lt rfl rfl)) <| qv (fun w hK => (pk rfl)) <| qn <| ?_
    intro w hK
    refine thn <| ?_
    refine cdP rfl (fun h2 => ?_) fun h2 => ?_
    ·try simp only at h2
     rw [if_pos (decide_eq_true ⟨h1, h2⟩)] at hft
     refine rgs (fun w => K e w G ((b6, row [.int .i64 0, .slice none 0 0] 29) :: (b5, row [.int .i64 n, t] 29) :: L)) (fun w => K _ w _ _) [U,U,U,U,U,U,U,U,U,U] 10 Ty.mixed rfl rfl (hK.drawn _) ?_
     intro w hK
     have hS : (fun w => K e w G ((b6, row [.int .i64 0, .slice none 0 0] 29) :: (b5, row [.int .i64 n, t] 29) :: L)) w := K.sl hK
     refine xt (i := 0) rfl kr rfl rfl (fun w hK => (fa underlying29 rfl Ty.z22 rfl)) hS <| xt (i := 2) rfl kr rfl rfl (fun w hK => mv) hS <| xt (i := 3) rfl kr rfl rfl (fun w hK => (mI rfl)) hS <| xt (i := 4) rfl kr rfl rfl (fun w hK => (ixn1 underlying22 Ty.s3 rfl hk.1 rfl om)) hS <| xt (i := 5) rfl kr rfl rfl (fun w hK => (ldV hK Ty.o3 rfl (by exact hk.at om))) hS <| ?_
     refine xe2 (i := 1) (j := 6) kr rfl rfl rfl rfl ?_ ?_
     ·refine vl (ldO hK Ty.o22 0 rfl rfl rfl) <| ?_
      refine xnk (K.sl hK) fun hS => ?_
      refine xe (i := 6) kr rfl rfl ?_
      refine bsN [.tmp 58] hK underlying22 Ty.i3 rfl rfl rfl rfl rfl rfl rfl rfl ?_
      intro b59 w hK
      refine xnk (K.sl hK) fun hS => ?_
      refine xe (i := 7) kr rfl rfl ?_
      replace hK : K e w G ((b59, row [.int .i64 ks[i]] 3) :: ([(b7, row [.int .i64 (nx ls n), v1] 29), (b6, row [.int .i64 0, .slice none 0 0] 29), (b5, row [.int .i64 n, t] 29)] ++ (A1 ++ L))) := hK
      replace hK := K.midc hK
      refine apI1 (k := ks[i]) hK underlying22 Ty.i3 rfl rfl ho rfl (by rw [List.length_append]; omega) fun v2 A2 w ho hK => ?_
      replace hK := K.mid (B := [_, _, _]) hK
      refine xnk (K.sl hK) fun hS => ?_
      refine xt (i := 8) rfl kr rfl rfl (fun w hK => (fa underlying29 rfl Ty.z22 rfl)) hS <| ?_
      refine xe (i := 9) kr rfl rfl ?_
      refine so hK Ty.i22 rfl 0 rfl rfl rfl ho.one rfl ?_
      intro w hK
      refine xnk (K.sl hK) fun hS => ?_
      refine xd kr <| bkn <| thn <| rg <| vl (mI rfl) <| vl (ad rfl rfl) <| vl (aI rfl) <| nl <| thn <| ?_
      rw [List.append_assoc, ← hft] at ho
      exact ⟨(i + 1, v2, A2), ⟨rfl, rfl, rfl, rfl, rfl, trivial⟩, ⟨hi', ho, hK⟩, by simp only; omega⟩
     ·refine bsN [.tmp 58] hK underlying22 Ty.i3 rfl rfl rfl rfl rfl rfl rfl rfl ?_
      intro b59 w hK
      refine xnk (K.sl hK) fun hS => ?_
      refine xe (i := 1) kr rfl rfl ?_
      refine vl (ldO hK Ty.o22 1 rfl rfl rfl) <| ?_
      refine xnk (K.sl hK) fun hS => ?_
      refine xe (i := 7) kr rfl rfl ?_
      replace hK : K e w G ((b59, row [.int .i64 ks[i]] 3) :: ([(b7, row [.int .i64 (nx ls n), v1] 29), (b6, row [.int .i64 0, .slice none 0 0] 29), (b5, row [.int .i64 n, t] 29)] ++ (A1 ++ L))) := hK
      replace hK := K.midc hK
      refine apI1 (k := ks[i]) hK underlying22 Ty.i3 rfl rfl ho rfl (by rw [List.length_append]; omega) fun v2 A2 w ho hK => ?_
      replace hK := K.mid (B := [_, _, _]) hK
      refine xnk (K.sl hK) fun hS => ?_
      refine xt (i := 8) rfl kr rfl rfl (fun w hK => (fa underlying29 rfl Ty.z22 rfl)) hS <| ?_
      refine xe (i := 9) kr rfl rfl ?_
      refine so hK Ty.i22 rfl 0 rfl rfl rfl ho.one rfl ?_
      intro w hK
      refine xnk (K.sl hK) fun hS => ?_
      refine xd kr <| bkn <| thn <| rg <| vl (mI rfl) <| vl (ad rfl rfl) <| vl (aI rfl) <| nl <| thn <| ?_
      rw [List.append_assoc, ← hft] at ho
      exact ⟨(i + 1, v2, A2), ⟨rfl, rfl, rfl, rfl, rfl, trivial⟩, ⟨hi', ho, hK⟩, by simp only; omega⟩
    ·try simp only at h2
     refine sk <| bkn <| thn <| rg <| ?_
     refine vl (mI rfl) <| vl (ad rfl rfl) <| vl (aI rfl) <| nl <| thn <| ?_
     rw [if_neg (by rw [decide_eq_true_eq]; omega), List.append_nil] at hft
     exact ⟨(i + 1, v1, A1), ⟨rfl, rfl, rfl, rfl, rfl, trivial⟩, ⟨hi', by rw [hft]; exact ho, hK⟩, by simp only; omega⟩
   ·try simp only at h1
    refine qgn rfl <| qgn rfl <| qgn rfl <| qgn rfl <| qgn rfl <| qgn rfl <| qgn rfl <| qv (fun w hK => (pk rfl)) <| qn <| ?_
    intro w hK
    refine thn <| ?_
    refine cdf rfl ?_
    refine sk <| bkn <| thn <| rg <| ?_
    refine vl (mI rfl) <| vl (ad rfl rfl) <| vl (aI rfl) <| nl <| thn <| ?_
    rw [if_neg (by rw [decide_eq_true_eq]; omega), List.append_nil] at hft
    exact ⟨(i + 1, v1, A1), ⟨rfl, rfl, rfl, rfl, rfl, trivial⟩, ⟨hi', by rw [hft]; exact ho, hK⟩, by simp only; omega⟩
  ·have hi' : i = ks.length := by simp only at hc; omega
   subst hi'
   rw [List.take_length] at ho
   refine ex <| the <| the <| bkh <| thn <| sq <| rg <| ?_
   refine vl (lsO hK Ty.a29 Ty.s29 0 rfl rfl rfl) <| ?_
   refine soS hK Ty.i29 1 rfl rfl rfl rfl (allc rfl (allc ho.one rfl)) rfl ?_
   intro w hK
   refine nl <| thn <| rt <| pg1r (rvS hK Ty.a29 Ty.s29 1 rfl rfl rfl) <| ?_
   exact ⟨v1, A1, rfl, ho, hK.drop1.drop1.drop1⟩
end
end Go.Proofs.YtmgggljicpmndaaGreatDoor
