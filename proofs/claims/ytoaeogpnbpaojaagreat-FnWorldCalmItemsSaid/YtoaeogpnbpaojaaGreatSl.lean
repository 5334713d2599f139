/- Contracts of the functions on scans. Contracts of the steps of a scan and of whole scans. Conditions: those that each row states. -/
import Derived.Test.YtoaeogpnbpaojaaGreatSn
namespace Go.Proofs.YtoaeogpnbpaojaaGreat
open Go Go.Ro

section
variable {e w : World} {G : View} {L A : Own} {v u t : Value} {xs ys ks ts : List Int} {ls : List Ls} {n : Int}

theorem implScanValid_c (hK : K e w G L) (ht : IntS G t ts) : Ret Tryz.prog 44 #[.agg #[.int .i64 n, t]] w (fun r w' => r = .bool (dec (SnOk (n, ts))) ∧ K e w' G L) := by
 have hle := ht.le
 refine enter1 (args := [.agg #[.int .i64 n, t]]) Tryz.func44 rfl rfl rfl rfl ?_
 refine sq <| rg <| ?_
 refine bx hK rfl rfl ?_
 intro b1 w hK
 refine vl (aB rfl) <| nl <| thn <| sq <| ?_
 refine rgq (fun w => K _ w _ _) Ty.mixed kr (hK.drawn _) ?_
 refine qv (fun w hK => (fa Tryz.underlying28 rfl Ty.z3 rfl)) <| ?_; refine qldO Ty.o3 0 rfl rfl rfl <| ?_
 refine qcl Tryz.call48 rfl (fun w hK => inRange_c (C := fun w => K _ w _ _) hK) ?_
 refine qv (fun w hK => (mB rfl)) <| ?_
 refine qsplP (t := 6) rfl (fun h1 => ?_) (fun h1 => ?_)
 ·refine qgy rfl <| ?_; refine qv (fun w hK => (fa Tryz.underlying28 rfl Ty.z26 rfl)) <| ?_; refine qgy rfl <| ?_; refine qldO Ty.o26 0 rfl rfl rfl <| ?_; refine qgy rfl <| ?_
  refine qcl Tryz.call45 rfl (fun w hK => ascendingPositions_c hK (by assumption)) ?_
  refine qv (fun w hK => (pk rfl)) <| ?_; refine qv (fun w hK => (mB rfl)) <| ?_
  refine qspl (t := 11) rfl (fun h2 => ?_) (fun h2 => ?_)
  ·have h2' := of_dec h2
   refine qgy rfl <| ?_; refine qv (fun w hK => (fa Tryz.underlying28 rfl Ty.z26 rfl)) <| ?_; refine qgy rfl <| ?_; refine qldO Ty.o26 0 rfl rfl rfl <| ?_; refine qgy rfl <| ?_; refine qv (fun w hK => (ln Tryz.underlying26 rfl ht.len)) <| ?_; refine qgy rfl <| ?_; refine qv (fun w hK => (eq rfl rfl)) <| ?_; refine qgy rfl <| ?_; refine qv (fun w hK => (mB rfl)) <| ?_
   refine qsplP (t := 16) rfl (fun h3 => ?_) (fun h3 => ?_)
   ·have h3' : ts = [] := List.eq_nil_of_length_eq_zero (by omega)
    subst h3'
    refine qgn rfl <| ?_; refine qgn rfl <| ?_; refine qgn rfl <| ?_; refine qgn rfl <| ?_; refine qgn rfl <| ?_; refine qgn rfl <| ?_; refine qgn rfl <| ?_; refine qgn rfl <| ?_; refine qgn rfl <| ?_; refine qgn rfl <| ?_; refine qgn rfl <| ?_; refine qgy rfl <| ?_; refine qv (fun w hK => (pk rfl)) <| ?_; refine qv (fun w hK => (pk rfl)) <| ?_; refine qv (fun w hK => (aB rfl)) <| ?_; refine qn <| ?_
    intro w hK
    refine thn <| rt <| p1r (a := .bool _) rfl <| ?_
    exact ⟨by rw [dec_t ⟨h1, h2', by simp⟩], hK.drop1⟩
   ·refine qgy rfl <| ?_; refine qv (fun w hK => (fa Tryz.underlying28 rfl Ty.z26 rfl)) <| ?_; refine qgy rfl <| ?_; refine qldO Ty.o26 0 rfl rfl rfl <| ?_; refine qgy rfl <| ?_; refine qv (fun w hK => (fa Tryz.underlying28 rfl Ty.z26 rfl)) <| ?_; refine qgy rfl <| ?_; refine qldO Ty.o26 0 rfl rfl rfl <| ?_; refine qgy rfl <| ?_; refine qv (fun w hK => (ln Tryz.underlying26 rfl ht.len)) <| ?_; refine qgy rfl <| ?_; refine qv (fun w hK => (sb rfl rfl)) <| ?_; refine qgy rfl <| ?_; refine qv (fun w hK => (ixm1 (m := ts.length - 1) Tryz.underlying26 Ty.s3 rfl ht.1 rfl om om)) <| ?_; refine qgy rfl <| ?_; refine qldV Ty.o3 rfl (ht.at om) <| ?_; refine qgy rfl <| ?_; refine qv (fun w hK => (fa Tryz.underlying28 rfl Ty.z3 rfl)) <| ?_; refine qgy rfl <| ?_; refine qldO Ty.o3 0 rfl rfl rfl <| ?_; refine qgy rfl <| ?_; refine qv (fun w hK => (lt rfl rfl)) <| ?_; refine qgy rfl <| ?_; refine qv (fun w hK => (pk rfl)) <| ?_; refine qv (fun w hK => (pk rfl)) <| ?_; refine qv (fun w hK => (aB rfl)) <| ?_; refine qn <| ?_
    intro w hK
    refine thn <| rt <| p1r (a := .bool _) rfl <| ?_
    refine ⟨?_, hK.drop1⟩
    rw [← dec_dec]
    congr 1
    exact dec_congr ⟨fun h => ⟨h1, h2', sn_last (ts := ts) h2' (show 0 < ts.length by omega) h⟩, fun h => h.2.2 _ (List.getElem_mem _)⟩
  ·refine qgn rfl <| ?_; refine qgn rfl <| ?_; refine qgn rfl <| ?_; refine qgn rfl <| ?_; refine qgn rfl <| ?_; refine qgu rfl <| ?_; refine qgu rfl <| ?_; refine qgu rfl <| ?_; refine qgu rfl <| ?_; refine qgu rfl <| ?_; refine qgu rfl <| ?_; refine qgu rfl <| ?_; refine qgu rfl <| ?_; refine qgu rfl <| ?_; refine qgu rfl <| ?_; refine qgu rfl <| ?_; refine qgn rfl <| ?_; refine qv (fun w hK => (pk rfl)) <| ?_; refine qv (fun w hK => (aB rfl)) <| ?_; refine qn <| ?_
   intro w hK
   refine thn <| rt <| p1r (a := .bool _) rfl <| ?_
   exact ⟨by rw [dec_f]; intro h; exact not_dec h2 h.2.1, hK.drop1⟩
 ·refine qgn rfl <| ?_; refine qgn rfl <| ?_; refine qgn rfl <| ?_; refine qv (fun w hK => (pk rfl)) <| ?_; refine qv (fun w hK => (mB rfl)) <| ?_; refine qgn rfl <| ?_; refine qgn rfl <| ?_; refine qgn rfl <| ?_; refine qgn rfl <| ?_; refine qgn rfl <| ?_; refine qgu rfl <| ?_; refine qgu rfl <| ?_; refine qgu rfl <| ?_; refine qgu rfl <| ?_; refine qgu rfl <| ?_; refine qgu rfl <| ?_; refine qgu rfl <| ?_; refine qgu rfl <| ?_; refine qgu rfl <| ?_; refine qgu rfl <| ?_; refine qgu rfl <| ?_; refine qgn rfl <| ?_; refine qv (fun w hK => (pk rfl)) <| ?_; refine qv (fun w hK => (aB rfl)) <| ?_; refine qn <| ?_
  intro w hK
  refine thn <| rt <| p1r (a := .bool _) rfl <| ?_
  exact ⟨by rw [dec_f]; intro h; exact h1 h.1, hK.drop1⟩

theorem specScanValid_c (hK : K e w G L) (ht : IntS G t ts) : Ret Tryz.prog 36 #[.agg #[.int .i64 n, t]] w (fun r w' => r = .bool (dec (SnOk (n, ts))) ∧ K e w' G L) := by
 have hle := ht.le
 refine enter1 (args := [.agg #[.int .i64 n, t]]) Tryz.func36 rfl rfl rfl rfl ?_
 refine sq <| rg <| ?_
 refine bx hK rfl rfl ?_
 intro b1 w hK
 refine vl (aB rfl) <| nl <| thn <| sq <| sq <| rg <| vl (aI rfl) <| nl <| thn <| bk <| ?_
 refine lp (σ := Nat) (fun i => [(1, .pointer (some ⟨b1, 0, none⟩)), (3, .int .i64 (i : Int))]) (fun i w => i ≤ ts.length ∧ (∀ x ∈ ts.take i, x < n) ∧ K e w G ((b1, row [.int .i64 n, t] 28) :: L)) (fun i => ts.length - i) 0 ⟨rfl, rfl, trivial⟩ ⟨Nat.zero_le _, by simp, hK⟩ ?_
 rintro i g w ⟨hi, ha, hK⟩
 refine sq <| sq <| rg <| ?_
 refine vl (mI rfl) <| vl (fa Tryz.underlying28 rfl Ty.z26 rfl) <| vl (ldO hK Ty.o26 0 rfl rfl rfl) <| vl (ln Tryz.underlying26 rfl ht.len) <| vl (lt rfl rfl) <| nl <| thn <| ?_
 refine cdP rfl (fun hc => ?_) (fun hc => ?_)
 ·have hi' : i < ts.length := by omega
  refine sk <| thn <| sq <| bk <| sq <| ?_
  refine rgq (fun w => K _ w _ _) Ty.mixed kr (hK.drawn _) ?_
  refine qv (fun w hK => (fa Tryz.underlying28 rfl Ty.z26 rfl)) <| ?_; refine qldO Ty.o26 0 rfl rfl rfl <| ?_; refine qv (fun w hK => (mI rfl)) <| ?_; refine qv (fun w hK => (ixn1 Tryz.underlying26 Ty.s3 rfl ht.1 rfl om)) <| ?_; refine qldV Ty.o3 rfl (ht.at om) <| ?_; refine qv (fun w hK => (fa Tryz.underlying28 rfl Ty.z3 rfl)) <| ?_; refine qldO Ty.o3 0 rfl rfl rfl <| ?_; refine qv (fun w hK => (ge rfl rfl)) <| ?_; refine qn <| ?_
  intro w hK
  refine thn <| ?_
  refine cdP rfl (fun h1 => ?_) (fun h1 => ?_)
  ·refine sq <| rg <| ?_
   refine vl (aB rfl) <| nl <| thn <| rt <| bkr <| thr <| thr <| bkr <| thr <| p1r (a := .bool _) rfl <| ?_
   exact ⟨by rw [dec_f]; intro h; have := h.2.2 _ (List.getElem_mem hi'); simp at this; omega, hK.drop1⟩
  ·refine sk <| bkn <| thn <| rg <| ?_
   refine vl (mI rfl) <| vl (ad rfl rfl) <| vl (aI rfl) <| nl <| thn <| ?_
   exact ⟨i + 1, ⟨rfl, rfl, trivial⟩, ⟨hi', all_snoc hi' ha (by omega), hK⟩, by omega⟩
 ·have hi' : i = ts.length := by omega
  subst hi'
  rw [List.take_length] at ha
  refine ex <| the <| the <| bkh <| thn <| sq <| rg <| ?_
  refine vl (fa Tryz.underlying28 rfl Ty.z3 rfl) <| vl (ldO hK Ty.o3 0 rfl rfl rfl) <| ?_
  refine cl Tryz.call95 rfl (l6In_c (C := fun w => K _ w _ _) hK) ?_
  rintro _ w ⟨rfl, hK⟩
  refine vl (mB rfl) <| ?_
  refine splP (t := 22) rfl (fun h1 => ?_) (fun h1 => ?_)
  ·refine gy rfl <| vl (fa Tryz.underlying28 rfl Ty.z26 rfl) <| gy rfl <| vl (ldO hK Ty.o26 0 rfl rfl rfl) <| gy rfl <| ?_
   refine cl Tryz.call37 rfl (l1Nodes_c hK (by assumption)) ?_
   rintro _ w ⟨rfl, hK⟩
   refine vl (pk rfl) <| vl (aB rfl) <| nl <| thn <| rt <| p1r (a := .bool _) rfl <| ?_
   refine ⟨?_, hK.drop1⟩
   congr 1
   exact dec_congr ⟨fun h => ⟨h1, h, ha⟩, fun h => h.2.1⟩
  ·refine gn rfl <| gn rfl <| gn rfl <| vl (pk rfl) <| vl (aB rfl) <| nl <| thn <| rt <| p1r (a := .bool _) rfl <| ?_
   exact ⟨by rw [dec_f]; intro h; exact h1 h.1, hK.drop1⟩

theorem clone_c (hK : K e w G L) (hv : IntS G v xs) (hle : xs.length ≤ 1000000000) :
  Ret Tryz.prog 87 #[v] w (fun r w' => ∃ A, OS 1 3 r xs.length (ints xs) A ∧ K e w' G (A ++ L)) := by
 refine enter1 (args := [v]) Tryz.func87 rfl rfl rfl rfl ?_
 refine sq <| rg <| ?_
 refine vl asg <| nl <| thn <| sq <| sq <| rg <| vl mv <| vl (eqSn Tryz.underlying26 rfl hv.len rfl) <| nl <| thn <| ?_
 refine cdB rfl (fun h => ?_) (fun h => ?_)
 ·have hx : xs = [] := List.eq_nil_of_length_eq_zero (hv.1.nil_len h)
  subst hx
  refine sq <| rg <| ?_
  refine vl asg <| nl <| thn <| rt <| thr <| p1r (a := _) rfl <| ?_
  exact ⟨[], OS.nil _ _, hK⟩
 ·refine sk <| thn <| sq <| rg <| ?_
  refine bs0 hK Tryz.underlying26 Ty.i3 ?_
  intro b5 w hK
  refine vl mv <| ?_
  refine apI (xs := []) (ys := xs) hK Tryz.underlying26 Ty.i3 rfl rfl OS.none rfl hv (by simp; omega) fun v' A' w ho hK => ?_
  refine vl asg <| nl <| thn <| rt <| p1r (a := _) rfl <| ?_
  exact ⟨A', ho, hK⟩

theorem copyScan_c (hK : K e w G L) (ht : IntS G t ts) (hle : ts.length ≤ 1000000000) :
  Ret Tryz.prog 86 #[.agg #[.int .i64 n, t]] w (fun r w' => ∃ t' A, r = .agg #[.int .i64 n, t'] ∧ OS 1 3 t' ts.length (ints ts) A ∧ K e w' G (A ++ L)) := by
 refine enterG1 (args := [.agg #[.int .i64 n, t]]) Tryz.func86 rfl rfl rfl rfl ?_
 refine sq <| rg <| ?_
 refine bx hK rfl rfl ?_
 intro b1 w hK
 refine al hK Ty.i28 rfl ?_
 intro b2 w hK
 refine nl <| thn <| sq <| ?_
 refine rgs (fun w => K e w G ((b1, row [.int .i64 n, t] 28) :: L)) (fun w => K _ w _ _) [U,U,U,U,U,U,U] 7 Ty.mixed rfl rfl (hK.drawn _) ?_
 intro w hK
 have hS : (fun w => K e w G ((b1, row [.int .i64 n, t] 28) :: L)) w := K.sl hK
 refine xt (i := 0) rfl kr rfl rfl (fun w hK => (fa Tryz.underlying28 rfl Ty.z3 rfl)) hS <| ?_; refine xt (i := 1) rfl kr rfl rfl (fun w hK => (ldO hK Ty.o3 0 rfl rfl rfl)) hS <| ?_; refine xt (i := 2) rfl kr rfl rfl (fun w hK => (fa Tryz.underlying28 rfl Ty.z26 rfl)) hS <| ?_; refine xt (i := 3) rfl kr rfl rfl (fun w hK => (ldO hK Ty.o26 0 rfl rfl rfl)) hS <| ?_
 refine xe (i := 4) kr rfl rfl ?_
 refine cl Tryz.call87 rfl (clone_c hK ht hle) ?_
 rintro t7 w ⟨A, ho, hK⟩
 replace hK := K.mid (B := [_, _]) hK
 refine xnk (K.sl hK) fun hS => ?_
 refine xe (i := 5) kr rfl rfl ?_
 refine vl (bd [(0, _), (1, _)] Ty.p28 Ty.i28 rfl ⟨⟨rfl, rfl⟩, ⟨rfl, one_cells ho.one⟩, trivial⟩ rfl) <| ?_
 refine xnk (K.sl hK) fun hS => ?_
 refine xe (i := 6) kr rfl rfl ?_
 refine soS hK Ty.i28 0 rfl rfl rfl rfl (allc rfl (allc ho.one rfl)) rfl ?_
 intro w hK
 refine xnk (K.sl hK) fun hS => ?_
 refine xd kr <| thn <| rt <| pg1r (rvS hK Ty.a28 Ty.s28 0 rfl rfl rfl) <| ?_
 exact ⟨_, A, rfl, ho, hK.drop1.drop1⟩

theorem l41New_c (hK : K e w G L) : Ret Tryz.prog 119 #[] w (fun r w' => ∃ t' A, r = .agg #[.int .i64 0, t'] ∧ OS 1 3 t' 0 (ints []) A ∧ K e w' G (A ++ L)) := by
 refine enterG1 (args := []) Tryz.func119 rfl rfl rfl rfl ?_
 refine sq <| rg <| ?_
 refine al hK Ty.i28 rfl ?_
 intro b0 w hK
 refine nl <| thn <| sq <| rg <| ?_
 refine bs0 hK Tryz.underlying26 Ty.i3 ?_
 intro b1 w hK
 refine vl (bd [(1, _)] Ty.p28 Ty.i28 rfl ⟨⟨rfl, rfl⟩, trivial⟩ rfl) <| ?_
 refine soS hK Ty.i28 1 rfl rfl rfl rfl rfl rfl ?_
 intro w hK
 refine nl <| thn <| rt <| pg1r (rvS hK Ty.a28 Ty.s28 1 rfl rfl rfl) <| ?_
 exact ⟨_, [_], rfl, OS.none, hK.perm (List.Perm.swap _ _ _) |>.drop1⟩

theorem l41Step_c (hK : K e w G L) (hv : LeaS G v ls) (hk : IntS G u ks) (ht : IntS G t ts) (hl : LsOk ls) (ha : Asc ks) (hs : SnOk (n, ts)) (hn : n < 64) :
  Ret Tryz.prog 148 #[v, u, .agg #[.int .i64 n, t]] w (fun r w' => ∃ t' A, r = .agg #[.int .i64 (stp ls ks (n, ts)).1, t'] ∧ OS 1 3 t' (stp ls ks (n, ts)).2.length (ints (stp ls ks (n, ts)).2) A ∧ K e w' G (A ++ L)) := by
 have hlt := lAt_lt (ls := ls) (k := n) (by have := hl.1; omega)
 have hat := lsAt_eq hlt
 have hpt := (hl.at hlt).1
 have hle := ht.le
 have hle2 := hk.le
 have hkl := ha.len
 have htl := hs.2.1.len
 simp only at htl
 have hn0 : 0 ≤ n := hs.1.1
 have hnx := nx_bd hl hn
 refine enterG1 (args := [v, u, .agg #[.int .i64 n, t]]) Tryz.func148 rfl rfl rfl rfl ?_
 refine sq <| rg <| ?_
 refine bx hK rfl rfl ?_
 intro b5 w hK
 refine al hK Ty.i28 rfl ?_
 intro b6 w hK
 refine nl <| thn <| sq <| rg <| ?_
 refine bs0 hK Tryz.underlying26 Ty.i3 ?_
 intro b10 w hK
 refine vl (fa Tryz.underlying28 rfl Ty.z26 rfl) <| vl (ldO hK Ty.o26 2 rfl rfl rfl) <| ?_
 refine apI (xs := []) (ys := ts) (A := [(b10, _)]) hK Tryz.underlying26 Ty.i3 rfl rfl OS.none rfl ht (by simp; omega) fun v13 A w ho hK => ?_
 replace hK := K.mid (B := [_, _]) hK
 refine vl (bd [(0, _), (1, _)] Ty.p28 Ty.i28 rfl ⟨⟨rfl, rfl⟩, ⟨rfl, one_cells ho.one⟩, trivial⟩ rfl) <| ?_
 refine al hK Ty.i28 rfl ?_
 intro b7 w hK
 refine soS hK Ty.i28 0 rfl rfl rfl rfl (allc rfl (allc ho.one rfl)) rfl ?_
 intro w hK
 refine nl <| thn <| sq <| rg <| vl mv <| vl mv <| vl (fa Tryz.underlying28 rfl Ty.z3 rfl) <| vl (ldO hK Ty.o3 2 rfl rfl rfl) <| ?_
 refine cl Tryz.call155 rfl (l12At_c hK (by assumption)) ?_
 rintro _ w ⟨rfl, hK⟩
 refine vl (ixn Tryz.underlying24 Ty.s102 rfl hv.1 rfl om) <| vl (lsF hK Ty.a102 Ty.s102 rfl hv om) <| ?_
 refine al hK Ty.i102 rfl ?_
 intro b8 w hK
 refine soS hK Ty.i102 0 rfl rfl rfl rfl rfl rfl ?_
 intro w hK
 refine nl <| thn <| sq <| sq <| rg <| vl (fa Tryz.underlying102 rfl Ty.z3 rfl) <| vl (ldO hK Ty.o3 0 rfl rfl rfl) <| vl (fa Tryz.underlying28 rfl Ty.z3 rfl) <| vl (ldO hK Ty.o3 3 rfl rfl rfl) <| vl (ge rfl rfl) <| nl <| thn <| ?_
 refine ct (σ := Unit) (fun _ => [(1, u), (5, .pointer (some ⟨b5, 0, none⟩)), (6, .pointer (some ⟨b6, 0, none⟩)), (7, .pointer (some ⟨b7, 0, none⟩))]) (fun _ w => K e w G ((b7, row [.int .i64 (nx ls n), v13] 28) :: (b6, row [.int .i64 0, .slice none 0 0] 28) :: (b5, row [.int .i64 n, t] 28) :: (A ++ L))) ?_ ?_
 ·refine cdP rfl (fun h => ?_) (fun h => ?_)
  ·refine rg <| ?_
   refine vl (fa Tryz.underlying102 rfl Ty.z3 rfl) <| vl (ldO hK Ty.o3 0 rfl rfl rfl) <| vl (ad rfl rfl) <| vl (fa Tryz.underlying28 rfl Ty.z3 rfl) <| ?_
   refine so hK Ty.i3 rfl 1 rfl rfl rfl rfl rfl ?_
   intro w hK
   refine nl <| ctn <| ?_
   refine ⟨(), ⟨rfl, rfl, rfl, rfl, trivial⟩, ?_⟩
   rw [nx, if_pos (by rw [← hat]; exact h), ← hat]; exact hK.drop1
  ·refine sk <| ctn <| ?_
   refine ⟨(), ⟨rfl, rfl, rfl, rfl, trivial⟩, ?_⟩
   rw [nx, if_neg (by rw [← hat]; exact h)]; exact hK.drop1
 ·rintro _ g w hK
  refine thn <| sq <| sq <| rg <| ?_
  refine vl (aI rfl) <| nl <| thn <| bk <| ?_
  refine lp (σ := Nat × Value × Own) (fun s => [(1, u), (5, .pointer (some ⟨b5, 0, none⟩)), (6, .pointer (some ⟨b6, 0, none⟩)), (7, .pointer (some ⟨b7, 0, none⟩)), (9, .int .i64 (s.1 : Int))]) (fun s w => s.1 ≤ ks.length ∧ OS 1 3 s.2.1 (ts ++ (ks.take s.1).filter fun k => decide (n ≤ k ∧ k < nx ls n)).length (ints (ts ++ (ks.take s.1).filter fun k => decide (n ≤ k ∧ k < nx ls n))) s.2.2 ∧ K e w G ((b7, row [.int .i64 (nx ls n), s.2.1] 28) :: (b6, row [.int .i64 0, .slice none 0 0] 28) :: (b5, row [.int .i64 n, t] 28) :: (s.2.2 ++ L))) (fun s => ks.length - s.1) (0, v13, A) ⟨rfl, rfl, rfl, rfl, rfl, trivial⟩ ⟨Nat.zero_le _, by simpa using ho, hK⟩ ?_
  rintro ⟨i, v1, A1⟩ g w ⟨hi, ho, hK⟩
  simp only at hi ho hK
  refine sq <| sq <| rg <| ?_
  refine vl (mI rfl) <| vl mv <| vl (ln Tryz.underlying26 rfl hk.len) <| vl (lt rfl rfl) <| nl <| thn <| ?_
  refine cdP rfl (fun hc => ?_) (fun hc => ?_)
  ·have hi' : i < ks.length := by simp only at hc; omega
   have hft := filter_take_succ (p := fun k => decide (n ≤ k ∧ k < nx ls n)) hi'
   have hfl : ((ks.take i).filter fun k => decide (n ≤ k ∧ k < nx ls n)).length ≤ ks.length := Nat.le_trans (List.length_filter_le _ _) (by rw [List.length_take]; omega)
   refine sk <| thn <| sq <| bk <| sq <| ?_
   refine rgq (fun w => K _ w _ _) Ty.mixed kr (hK.drawn _) ?_
   refine qv (fun w hK => mv) <| ?_; refine qv (fun w hK => (mI rfl)) <| ?_; refine qv (fun w hK => (ixn1 Tryz.underlying26 Ty.s3 rfl hk.1 rfl om)) <| ?_; refine qldV Ty.o3 rfl (hk.at om) <| ?_; refine qv (fun w hK => (fa Tryz.underlying28 rfl Ty.z3 rfl)) <| ?_; refine qldO Ty.o3 2 rfl rfl rfl <| ?_; refine qv (fun w hK => (ge rfl rfl)) <| ?_; refine qv (fun w hK => (mB rfl)) <| ?_
   refine qsplP (t := 44) rfl (fun h1 => ?_) (fun h1 => ?_)
   ·try simp only at h1
    refine qgy rfl <| ?_; refine qv (fun w hK => mv) <| ?_; refine qgy rfl <| ?_; refine qv (fun w hK => (mI rfl)) <| ?_; refine qgy rfl <| ?_; refine qv (fun w hK => (ixn1 Tryz.underlying26 Ty.s3 rfl hk.1 rfl om)) <| ?_; refine qgy rfl <| ?_; refine qldV Ty.o3 rfl (hk.at om) <| ?_; refine qgy rfl <| ?_; refine qv (fun w hK => (fa Tryz.underlying28 rfl Ty.z3 rfl)) <| ?_; refine qgy rfl <| ?_; refine qldO Ty.o3 0 rfl rfl rfl <| ?_; refine qgy rfl <| ?_; refine qv (fun w hK => (lt rfl rfl)) <| ?_; refine qv (fun w hK => (pk rfl)) <| ?_; refine qn <| ?_
    intro w hK
    refine thn <| ?_
    refine cdP rfl (fun h2 => ?_) (fun h2 => ?_)
    ·try simp only at h2
     rw [if_pos (decide_eq_true ⟨h1, h2⟩)] at hft
     refine rgs (fun w => K e w G ((b6, row [.int .i64 0, .slice none 0 0] 28) :: (b5, row [.int .i64 n, t] 28) :: L)) (fun w => K _ w _ _) [U,U,U,U,U,U,U,U,U,U] 10 Ty.mixed rfl rfl (hK.drawn _) ?_
     intro w hK
     have hS : (fun w => K e w G ((b6, row [.int .i64 0, .slice none 0 0] 28) :: (b5, row [.int .i64 n, t] 28) :: L)) w := K.sl hK
     refine xt (i := 0) rfl kr rfl rfl (fun w hK => (fa Tryz.underlying28 rfl Ty.z26 rfl)) hS <| ?_; refine xt (i := 2) rfl kr rfl rfl (fun w hK => mv) hS <| ?_; refine xt (i := 3) rfl kr rfl rfl (fun w hK => (mI rfl)) hS <| ?_; refine xt (i := 4) rfl kr rfl rfl (fun w hK => (ixn1 Tryz.underlying26 Ty.s3 rfl hk.1 rfl om)) hS <| ?_; refine xt (i := 5) rfl kr rfl rfl (fun w hK => (ldV hK Ty.o3 rfl (by exact hk.at om))) hS <| ?_
     refine xe2 (i := 1) (j := 6) kr rfl rfl rfl rfl ?_ ?_
     ·refine vl (ldO hK Ty.o26 0 rfl rfl rfl) <| ?_
      refine xnk (K.sl hK) fun hS => ?_
      refine xe (i := 6) kr rfl rfl ?_
      refine bsN [.tmp 58] hK Tryz.underlying26 Ty.i3 rfl rfl rfl rfl rfl rfl rfl rfl ?_
      intro b59 w hK
      refine xnk (K.sl hK) fun hS => ?_
      refine xe (i := 7) kr rfl rfl ?_
      replace hK : K e w G ((b59, row [.int .i64 ks[i]] 3) :: ([(b7, row [.int .i64 (nx ls n), v1] 28), (b6, row [.int .i64 0, .slice none 0 0] 28), (b5, row [.int .i64 n, t] 28)] ++ (A1 ++ L))) := hK
      replace hK := K.midc hK
      refine apI1 (k := ks[i]) hK Tryz.underlying26 Ty.i3 rfl rfl ho rfl (by rw [List.length_append]; omega) fun v2 A2 w ho hK => ?_
      replace hK := K.mid (B := [_, _, _]) hK
      refine xnk (K.sl hK) fun hS => ?_
      refine xt (i := 8) rfl kr rfl rfl (fun w hK => (fa Tryz.underlying28 rfl Ty.z26 rfl)) hS <| ?_
      refine xe (i := 9) kr rfl rfl ?_
      refine so hK Ty.i26 rfl 0 rfl rfl rfl ho.one rfl ?_
      intro w hK
      refine xnk (K.sl hK) fun hS => ?_
      refine xd kr <| bkn <| thn <| rg <| vl (mI rfl) <| vl (ad rfl rfl) <| vl (aI rfl) <| nl <| thn <| ?_
      rw [List.append_assoc, ← hft] at ho
      exact ⟨(i + 1, v2, A2), ⟨rfl, rfl, rfl, rfl, rfl, trivial⟩, ⟨hi', ho, hK⟩, by simp only; omega⟩
     ·refine bsN [.tmp 58] hK Tryz.underlying26 Ty.i3 rfl rfl rfl rfl rfl rfl rfl rfl ?_
      intro b59 w hK
      refine xnk (K.sl hK) fun hS => ?_
      refine xe (i := 1) kr rfl rfl ?_
      refine vl (ldO hK Ty.o26 1 rfl rfl rfl) <| ?_
      refine xnk (K.sl hK) fun hS => ?_
      refine xe (i := 7) kr rfl rfl ?_
      replace hK : K e w G ((b59, row [.int .i64 ks[i]] 3) :: ([(b7, row [.int .i64 (nx ls n), v1] 28), (b6, row [.int .i64 0, .slice none 0 0] 28), (b5, row [.int .i64 n, t] 28)] ++ (A1 ++ L))) := hK
      replace hK := K.midc hK
      refine apI1 (k := ks[i]) hK Tryz.underlying26 Ty.i3 rfl rfl ho rfl (by rw [List.length_append]; omega) fun v2 A2 w ho hK => ?_
      replace hK := K.mid (B := [_, _, _]) hK
      refine xnk (K.sl hK) fun hS => ?_
      refine xt (i := 8) rfl kr rfl rfl (fun w hK => (fa Tryz.underlying28 rfl Ty.z26 rfl)) hS <| ?_
      refine xe (i := 9) kr rfl rfl ?_
      refine so hK Ty.i26 rfl 0 rfl rfl rfl ho.one rfl ?_
      intro w hK
      refine xnk (K.sl hK) fun hS => ?_
      refine xd kr <| bkn <| thn <| rg <| vl (mI rfl) <| vl (ad rfl rfl) <| vl (aI rfl) <| nl <| thn <| ?_
      rw [List.append_assoc, ← hft] at ho
      exact ⟨(i + 1, v2, A2), ⟨rfl, rfl, rfl, rfl, rfl, trivial⟩, ⟨hi', ho, hK⟩, by simp only; omega⟩
    ·try simp only at h2
     refine sk <| bkn <| thn <| rg <| ?_
     refine vl (mI rfl) <| vl (ad rfl rfl) <| vl (aI rfl) <| nl <| thn <| ?_
     rw [if_neg (by rw [decide_eq_true_eq]; omega), List.append_nil] at hft
     exact ⟨(i + 1, v1, A1), ⟨rfl, rfl, rfl, rfl, rfl, trivial⟩, ⟨hi', by rw [hft]; exact ho, hK⟩, by simp only; omega⟩
   ·try simp only at h1
    refine qgn rfl <| ?_; refine qgn rfl <| ?_; refine qgn rfl <| ?_; refine qgn rfl <| ?_; refine qgn rfl <| ?_; refine qgn rfl <| ?_; refine qgn rfl <| ?_; refine qv (fun w hK => (pk rfl)) <| ?_; refine qn <| ?_
    intro w hK
    refine thn <| ?_
    refine cdf rfl ?_
    refine sk <| bkn <| thn <| rg <| ?_
    refine vl (mI rfl) <| vl (ad rfl rfl) <| vl (aI rfl) <| nl <| thn <| ?_
    rw [if_neg (by rw [decide_eq_true_eq]; omega), List.append_nil] at hft
    exact ⟨(i + 1, v1, A1), ⟨rfl, rfl, rfl, rfl, rfl, trivial⟩, ⟨hi', by rw [hft]; exact ho, hK⟩, by simp only; omega⟩
  ·have hi' : i = ks.length := by simp only at hc; omega
   subst hi'
   rw [List.take_length] at ho
   refine ex <| the <| the <| bkh <| thn <| sq <| rg <| ?_
   refine vl (lsO hK Ty.a28 Ty.s28 0 rfl rfl rfl) <| ?_
   refine soS hK Ty.i28 1 rfl rfl rfl rfl (allc rfl (allc ho.one rfl)) rfl ?_
   intro w hK
   refine nl <| thn <| rt <| pg1r (rvS hK Ty.a28 Ty.s28 1 rfl rfl rfl) <| ?_
   exact ⟨v1, A1, rfl, ho, hK.drop1.drop1.drop1⟩
end
end Go.Proofs.YtoaeogpnbpaojaaGreat

namespace Go.Proofs.YtoaeogpnbpaojaaGreat
open Go Go.Ro

section
variable {e w : World} {G : View} {L A : Own} {v u t t2 : Value} {xs ys ks ts us : List Int} {ls : List Ls} {n m : Int}

theorem sameScan_c (hK : K e w G L) (ht : IntS G t ts) (hu : IntS G t2 us) :
  Ret Tryz.prog 11 #[.agg #[.int .i64 n, t], .agg #[.int .i64 m, t2]] w (fun r w' => r = .bool (decide (n = m ∧ ts = us)) ∧ K e w' G L) := by
 refine enter1 (args := [.agg #[.int .i64 n, t], .agg #[.int .i64 m, t2]]) Tryz.func11 rfl rfl rfl rfl ?_
 refine sq <| rg <| ?_
 refine bx hK rfl rfl ?_
 intro b2 w hK
 refine bx hK rfl rfl ?_
 intro b3 w hK
 refine vl (aB rfl) <| nl <| thn <| sq <| rg <| vl (fa Tryz.underlying28 rfl Ty.z3 rfl) <| vl (ldO hK Ty.o3 1 rfl rfl rfl) <| vl (fa Tryz.underlying28 rfl Ty.z3 rfl) <| vl (ldO hK Ty.o3 0 rfl rfl rfl) <| vl (eq rfl rfl) <| vl (mB rfl) <| ?_
 refine splP (t := 10) rfl (fun h => ?_) (fun h => ?_)
 ·refine gy rfl <| vl (fa Tryz.underlying28 rfl Ty.z26 rfl) <| gy rfl <| vl (ldO hK Ty.o26 1 rfl rfl rfl) <| gy rfl <| vl (fa Tryz.underlying28 rfl Ty.z26 rfl) <| gy rfl <| vl (ldO hK Ty.o26 0 rfl rfl rfl) <| gy rfl <| ?_
  refine cl Tryz.call12 rfl (sameInts_c hK (by assumption) (by assumption)) ?_
  rintro _ w ⟨rfl, hK⟩
  refine vl (pk rfl) <| vl (aB rfl) <| nl <| thn <| rt <| p1r (a := .bool _) rfl <| ?_
  exact ⟨by simp [h], hK.drop1.drop1⟩
 ·refine gn rfl <| gn rfl <| gn rfl <| gn rfl <| gn rfl <| vl (pk rfl) <| vl (aB rfl) <| nl <| thn <| rt <| p1r (a := .bool _) rfl <| ?_
  exact ⟨by simp [h], hK.drop1.drop1⟩
end
end Go.Proofs.YtoaeogpnbpaojaaGreat
