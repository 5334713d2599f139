/- Contracts of the functions that make new rings and worlds. Conditions: those that each row states. -/
import Derived.Test.YtbkfnnifkdgbkaaWo
namespace Go.Proofs.Ytbkfnnifkdgbkaa
open Go Go.Ro

section
variable {e w : World} {G : View} {L A : Own} {v u : Value} {xs ys : List Int} {ls : List Ls} {rs : List Rn} {zs : List It} {W : Wv} {wd : Wd} {a b k id other : Int} {i j bk o : Nat}

theorem specNodesValid_c (hK : K e w G L) (hv : IntS G v xs) : Ret Try.prog 30 #[v] w (fun r w' => r = .bool (dec (NdsOk xs)) ∧ K e w' G L) := by
 have hle := hv.le
 refine enter1 (args := [v]) Try.func30 rfl rfl rfl rfl ?_
 refine sq <| rg <| ?_
 refine vl (aB rfl) <| nl <| thn <| sq <| rg <| vl mv <| vl (ln Try.underlying22 rfl hv.len) <| ?_
 refine cl Try.call37 rfl (l6In_c (C := fun w => K _ w _ _) hK) ?_
 rintro _ w ⟨rfl, hK⟩
 refine vl (mB rfl) <| ?_
 refine splP (t := 6) rfl (fun h1 => ?_) (fun h1 => ?_)
 ·refine gy rfl <| vl mv <| gy rfl <| ?_
  refine cl Try.call38 rfl (l1Nodes_c hK (by assumption)) ?_
  rintro _ w ⟨rfl, hK⟩
  refine vl (pk rfl) <| vl (aB rfl) <| nl <| thn <| rt <| p1r (a := .bool _) rfl <| ?_
  exact ⟨congrArg Value.bool (dec_congr ⟨fun h => ⟨by omega, h⟩, fun h => h.2⟩), hK⟩
 ·refine gn rfl <| gn rfl <| vl (pk rfl) <| vl (aB rfl) <| nl <| thn <| rt <| p1r (a := .bool _) rfl <| ?_
  exact ⟨by rw [dec_f fun h => h1 (by have := h.1; omega)], hK⟩
theorem implNodesValid_c (hK : K e w G L) (hv : IntS G v xs) : Ret Try.prog 32 #[v] w (fun r w' => r = .bool (dec (NdsOk xs)) ∧ K e w' G L) := by
 have hle := hv.le
 refine enter1 (args := [v]) Try.func32 rfl rfl rfl rfl ?_
 refine sq <| rg <| ?_
 refine vl (aB rfl) <| nl <| thn <| sq <| rg <| vl mv <| vl (ln Try.underlying22 rfl hv.len) <| ?_
 refine cl Try.call39 rfl (inRange_c (C := fun w => K _ w _ _) hK) ?_
 rintro _ w ⟨rfl, hK⟩
 refine vl (mB rfl) <| ?_
 refine splP (t := 6) rfl (fun h1 => ?_) (fun h1 => ?_)
 ·refine gy rfl <| vl mv <| gy rfl <| ?_
  refine cl Try.call40 rfl (ascendingPositions_c hK (by assumption)) ?_
  rintro _ w ⟨rfl, hK⟩
  refine vl (pk rfl) <| vl (aB rfl) <| nl <| thn <| rt <| p1r (a := .bool _) rfl <| ?_
  exact ⟨congrArg Value.bool (dec_congr ⟨fun h => ⟨by omega, h⟩, fun h => h.2⟩), hK⟩
 ·refine gn rfl <| gn rfl <| vl (pk rfl) <| vl (aB rfl) <| nl <| thn <| rt <| p1r (a := .bool _) rfl <| ?_
  exact ⟨by rw [dec_f fun h => h1 (by have := h.1; omega)], hK⟩

set_option maxHeartbeats 1000000 in
theorem l3Ideal_c (hK : K e w G L) (hv : IntS G v xs) (hl : xs.length ≤ 100000) : Ret Try.prog 31 #[v] w (fun r w' => ∃ G' rs A, VLe G G' ∧ OR G' 55 r rs A ∧ rgl rs = idl xs ∧ K e w' G' (A ++ L)) := by
 have hle := hv.le
 refine enter1 (args := [v]) Try.func31 rfl rfl rfl rfl ?_
 refine sq <| rg <| ?_
 refine vl asg <| nl <| thn <| sq <| rg <| ?_
 refine bs0 hK Try.underlying23 Ty.i55 ?_
 intro b6 w hK
 refine vl asg <| nl <| thn <| sq <| rg <| vl mv <| vl (ln Try.underlying22 rfl hv.len) <| vl (aI rfl) <| nl <| thn <| sq <| sq <| rg <| vl (aI rfl) <| nl <| thn <| ?_
 refine bk <| ?_
 refine lp (σ := Nat × View × Value × List Rn × Own) (fun s => [(0, v), (3, s.2.2.1), (4, .int .i64 (xs.length : Int)), (5, .int .i64 (s.1 : Int))]) (fun s w => s.1 ≤ xs.length ∧ VLe G s.2.1 ∧ rgl s.2.2.2.1 = idTo xs s.1 ∧ OR s.2.1 55 s.2.2.1 s.2.2.2.1 s.2.2.2.2 ∧ K e w s.2.1 (s.2.2.2.2 ++ L)) (fun s => xs.length - s.1) (0, G, .slice (some ⟨b6, 0, none⟩) 0 0, [], [(b6, row [] 55)]) ⟨rfl, rfl, rfl, rfl, trivial⟩ ⟨Nat.zero_le _, VLe.refl _, rfl, ⟨OS.none, fun _ h => by cases h⟩, hK⟩ ?_
 rintro ⟨i, G1, u, rs, A⟩ g w ⟨hi, hG1, hrg, ho, hK⟩
 simp only at hi hG1 hrg ho hK
 have hrl : rs.length = i := by rw [← rg_len, hrg]; simp [idTo]
 refine sq <| sq <| rg <| ?_
 refine vl (mI rfl) <| vl (mI rfl) <| vl (lt rfl rfl) <| nl <| thn <| ?_
 refine cdP rfl (fun hc => ?_) (fun hc => ?_)
 ·have hi' : i < xs.length := by simp only at hc; omega
  have hv1 := hv.mono hG1
  have m1 := md (a := (i : Int) + xs.length - 1) (n := xs.length) (by omega)
  have m2 := md (a := (i : Int) + 1) (n := xs.length) (by omega)
  have m3 := md (a := (i : Int) + 2) (n := xs.length) (by omega)
  refine sk <| thn <| sq <| bk <| ?_
  refine rgs (fun w => K e w G1 L) (fun w => K _ w _ _) [U,U,U,U,U,U,U,U,U,U,U,U,U,U,U,U,U,U,U,U,U,U,U,U,U,U,U,U,U,U,U,U,U] 33 Ty.mixed rfl rfl (hK.drawn _) ?_
  intro w hK
  have hS : (fun w => K e w G1 L) w := K.sl hK
  refine xt (i := 0) rfl kr rfl rfl (fun w hK => mv) hS <| ?_; refine xt (i := 1) rfl kr rfl rfl (fun w hK => mv) hS <| ?_; refine xt (i := 2) rfl kr rfl rfl (fun w hK => (mI rfl)) hS <| ?_; refine xt (i := 3) rfl kr rfl rfl (fun w hK => (ixn1 Try.underlying22 Ty.s3 rfl hv1.1 rfl om)) hS <| ?_; refine xt (i := 4) rfl kr rfl rfl (fun w hK => (ldV hK Ty.o3 rfl (by exact hv1.at om))) hS <| ?_; refine xt (i := 5) rfl kr rfl rfl (fun w hK => mv) hS <| ?_; refine xt (i := 6) rfl kr rfl rfl (fun w hK => (mI rfl)) hS <| ?_; refine xt (i := 7) rfl kr rfl rfl (fun w hK => (mI rfl)) hS <| ?_; refine xt (i := 8) rfl kr rfl rfl (fun w hK => (ad rfl rfl)) hS <| ?_; refine xt (i := 9) rfl kr rfl rfl (fun w hK => (sb rfl rfl)) hS <| ?_; refine xt (i := 10) rfl kr rfl rfl (fun w hK => (mI rfl)) hS <| ?_; refine xt (i := 11) rfl kr rfl rfl (fun w hK => (rm rfl rfl)) hS <| ?_; refine xt (i := 12) rfl kr rfl rfl (fun w hK => (ix1 Try.underlying22 Ty.s3 rfl hv1.1 rfl om om)) hS <| ?_; refine xt (i := 13) rfl kr rfl rfl (fun w hK => (ldV hK Ty.o3 rfl (by exact hv1.atI om om))) hS <| ?_; refine xt (i := 14) rfl kr rfl rfl (fun w hK => mv) hS <| ?_; refine xt (i := 15) rfl kr rfl rfl (fun w hK => (mI rfl)) hS <| ?_; refine xt (i := 16) rfl kr rfl rfl (fun w hK => (ad rfl rfl)) hS <| ?_; refine xt (i := 17) rfl kr rfl rfl (fun w hK => (mI rfl)) hS <| ?_; refine xt (i := 18) rfl kr rfl rfl (fun w hK => (rm rfl rfl)) hS <| ?_; refine xt (i := 19) rfl kr rfl rfl (fun w hK => (ix1 Try.underlying22 Ty.s3 rfl hv1.1 rfl om om)) hS <| ?_; refine xt (i := 20) rfl kr rfl rfl (fun w hK => (ldV hK Ty.o3 rfl (by exact hv1.atI om om))) hS <| ?_; refine xt (i := 21) rfl kr rfl rfl (fun w hK => mv) hS <| ?_; refine xt (i := 22) rfl kr rfl rfl (fun w hK => (mI rfl)) hS <| ?_; refine xt (i := 23) rfl kr rfl rfl (fun w hK => (ad rfl rfl)) hS <| ?_; refine xt (i := 24) rfl kr rfl rfl (fun w hK => (mI rfl)) hS <| ?_; refine xt (i := 25) rfl kr rfl rfl (fun w hK => (rm rfl rfl)) hS <| ?_; refine xt (i := 26) rfl kr rfl rfl (fun w hK => (ix1 Try.underlying22 Ty.s3 rfl hv1.1 rfl om om)) hS <| ?_; refine xt (i := 27) rfl kr rfl rfl (fun w hK => (ldV hK Ty.o3 rfl (by exact hv1.atI om om))) hS <| ?_
  refine xe (i := 28) kr rfl rfl ?_
  refine bsN [.tmp 34, .tmp 41] hK Try.underlying22 Ty.i3 rfl rfl rfl rfl rfl rfl rfl rfl ?_
  intro b42 w hK
  refine xnk (K.sl hK) fun hS => ?_
  refine xe (i := 29) kr rfl rfl ?_
  refine vl (bd [(0, _), (1, _), (2, _)] Ty.p55 Ty.i55 rfl ⟨⟨rfl, rfl⟩, ⟨rfl, rfl⟩, ⟨rfl, rfl⟩, trivial⟩ rfl) <| ?_
  refine xnk (K.sl hK) fun hS => ?_
  refine xe (i := 30) kr rfl rfl ?_
  refine bsS1 hK Try.underlying23 Ty.i55 rfl rfl rfl rfl rfl rfl ?_
  intro b44 w hK
  refine xnk (K.sl hK) fun hS => ?_
  refine xe (i := 31) kr rfl rfl ?_
  replace hK : K e w G1 ((b44, row (rc (xs[i], xs.getD (((i : Int) + xs.length - 1) % xs.length).toNat 0, .slice (some ⟨b42, 0, none⟩) 2 2, [xs.getD (((i : Int) + 1) % xs.length).toNat 0, xs.getD (((i : Int) + 2) % xs.length).toNat 0])) 55) :: (A ++ ((b42, row [.int .i64 (xs.getD (((i : Int) + 1) % xs.length).toNat 0), .int .i64 (xs.getD (((i : Int) + 2) % xs.length).toNat 0)] 3) :: L))) := (show K e w G1 ((b44, row (rc (xs[i], xs.getD (((i : Int) + xs.length - 1) % xs.length).toNat 0, .slice (some ⟨b42, 0, none⟩) 2 2, [xs.getD (((i : Int) + 1) % xs.length).toNat 0, xs.getD (((i : Int) + 2) % xs.length).toNat 0])) 55) :: ([(b42, row [.int .i64 (xs.getD (((i : Int) + 1) % xs.length).toNat 0), .int .i64 (xs.getD (((i : Int) + 2) % xs.length).toNat 0)] 3)] ++ (A ++ L))) from hK).midc
  refine apR1 (xs := rs) (k := ((xs[i], xs.getD (((i : Int) + xs.length - 1) % xs.length).toNat 0, .slice (some ⟨b42, 0, none⟩) 2 2, [xs.getD (((i : Int) + 1) % xs.length).toNat 0, xs.getD (((i : Int) + 2) % xs.length).toNat 0]) : Rn)) (rc_one rfl) hK Try.underlying23 Ty.i55 rfl rfl rfl ho.os rfl om fun v2 A2 w ho2 hK => ?_
  obtain ⟨G2, hG2, hx', hK⟩ := K.pubO (v := .slice (some ⟨b42, 0, none⟩) 2 2) (xs := [xs.getD (((i : Int) + 1) % xs.length).toNat 0, xs.getD (((i : Int) + 2) % xs.length).toNat 0]) (A := [(b42, _)]) (K.mid (A := A2) (B := [_]) hK) (OS.lit (by simp) (by simp))
  have hres : rgl (rs ++ [((xs[i], xs.getD (((i : Int) + xs.length - 1) % xs.length).toNat 0, .slice (some ⟨b42, 0, none⟩) 2 2, [xs.getD (((i : Int) + 1) % xs.length).toNat 0, xs.getD (((i : Int) + 2) % xs.length).toNat 0]) : Rn)]) = idTo xs (i + 1) := by rw [rgl_snoc, hrg, idTo_succ]; unfold idN; rw [← getD_of hi']; rfl
  refine xnk ((K.vle (K.dropL hK) hG2)) fun hS => ?_
  refine xt (i := 32) rfl kr rfl rfl (fun w hK => asg) hS <| ?_; refine xd kr <| bkn <| thn <| rg <| vl (mI rfl) <| vl (ad rfl rfl) <| vl (aI rfl) <| nl <| thn <| ?_
  exact ⟨(i + 1, G2, v2, rs ++ [((xs[i], xs.getD (((i : Int) + xs.length - 1) % xs.length).toNat 0, .slice (some ⟨b42, 0, none⟩) 2 2, [xs.getD (((i : Int) + 1) % xs.length).toNat 0, xs.getD (((i : Int) + 2) % xs.length).toNat 0]) : Rn)], A2), ⟨rfl, rfl, rfl, rfl, trivial⟩, ⟨hi', hG1.trans hG2, hres, ⟨ho2, fun x hx => by
   rcases List.mem_append.1 hx with h | h
   ·exact (ho.aft x h).mono hG2
   ·rw [List.mem_singleton.1 h]; exact hx'⟩, hK⟩, by simp only; omega⟩
 ·have hi' : i = xs.length := by simp only at hc; omega
  subst hi'
  refine ex <| the <| the <| bkh <| thn <| sq <| rg <| ?_
  refine vl mv <| vl asg <| nl <| thn <| rt <| p1r (a := _) rfl <| ?_
  exact ⟨G1, rs, A, hG1, ho, hrg, hK⟩

theorem specRingNew_c (hK : K e w G L) (hv : IntS G v xs) : Ret Try.prog 12 #[v] w (fun r w' => ∃ G' u rs b, r = .tuple #[u, .bool b] ∧ VLe G G' ∧ RngS G' u rs ∧ (b = true ↔ NdsOk xs ∧ 3 ≤ xs.length) ∧ rgl rs = (if b then idl xs else []) ∧ K e w' G' L) := by
 have hle := hv.le
 refine enter2 (args := [v]) Try.func12 rfl rfl rfl rfl ?_
 refine sq <| rg <| ?_
 refine vl asg <| vl (aB rfl) <| nl <| thn <| sq <| sq <| rg <| vl mv <| ?_
 refine cl Try.call30 rfl (specNodesValid_c hK hv) ?_
 rintro _ w ⟨rfl, hK⟩
 refine vl (ntB rfl) <| vl (mB rfl) <| ?_
 refine spl (t := 7) rfl (fun h1 => ?_) (fun h1 => ?_)
 ·have h1' := not_dec (Eq.mp (Bool.not_eq_true' _) h1)
  refine gn rfl <| gn rfl <| gn rfl <| vl (pk rfl) <| nl <| thn <| ?_
  refine cdt rfl ?_
  refine sq <| rg <| ?_
  refine bs0 hK Try.underlying23 Ty.i55 ?_
  intro b12 w hK
  refine vl asg <| vl (aB rfl) <| nl <| thn <| rt <| thr <| p2r (a := _) (b := .bool _) rfl rfl <| ?_
  exact ⟨G, _, [], false, rfl, VLe.refl _, RngS.lit, by simp [h1'], rfl, hK.drop1⟩
 ·have h1' := of_dec (Eq.mp (Bool.not_eq_false' _) h1)
  refine gy rfl <| vl mv <| gy rfl <| vl (ln Try.underlying22 rfl hv.len) <| gy rfl <| vl (lt rfl rfl) <| vl (pk rfl) <| nl <| thn <| ?_
  refine cdP rfl (fun h2 => ?_) (fun h2 => ?_)
  ·refine sq <| rg <| ?_
   refine bs0 hK Try.underlying23 Ty.i55 ?_
   intro b12 w hK
   refine vl asg <| vl (aB rfl) <| nl <| thn <| rt <| thr <| p2r (a := _) (b := .bool _) rfl rfl <| ?_
   exact ⟨G, _, [], false, rfl, VLe.refl _, RngS.lit, by simp; intro _; omega, rfl, hK.drop1⟩
  ·refine sk <| thn <| sq <| rg <| ?_
   refine vl mv <| ?_
   refine cl Try.call31 rfl (l3Ideal_c hK hv (by have := h1'.1; omega)) ?_
   rintro u w ⟨G1, rs, A, hG1, ho, hrg, hK⟩
   obtain ⟨G2, hG2, hR, hK⟩ := ho.pub hK
   refine vl asg <| vl (aB rfl) <| nl <| thn <| rt <| p2r (a := _) (b := .bool _) rfl rfl <| ?_
   exact ⟨G2, _, rs, true, rfl, hG1.trans hG2, hR, by simp [h1']; omega, hrg, hK⟩

set_option maxHeartbeats 1000000 in
theorem implRingNew_c (hK : K e w G L) (hv : IntS G v xs) : Ret Try.prog 15 #[v] w (fun r w' => ∃ G' u rs b, r = .tuple #[u, .bool b] ∧ VLe G G' ∧ RngS G' u rs ∧ (b = true ↔ NdsOk xs ∧ 3 ≤ xs.length) ∧ rgl rs = (if b then idl xs else []) ∧ K e w' G' L) := by
 have hle := hv.le
 refine enter2 (args := [v]) Try.func15 rfl rfl rfl rfl ?_
 refine sq <| rg <| ?_
 refine vl asg <| vl (aB rfl) <| nl <| thn <| sq <| sq <| rg <| vl mv <| ?_
 refine cl Try.call32 rfl (implNodesValid_c hK hv) ?_
 rintro _ w ⟨rfl, hK⟩
 refine vl (ntB rfl) <| vl (mB rfl) <| ?_
 refine spl (t := 13) rfl (fun h1 => ?_) (fun h1 => ?_)
 ·have h1' := not_dec (Eq.mp (Bool.not_eq_true' _) h1)
  refine gn rfl <| gn rfl <| gn rfl <| vl (pk rfl) <| nl <| thn <| ?_
  refine cdt rfl ?_
  refine sq <| rg <| ?_
  refine vl asg <| vl (aB rfl) <| nl <| thn <| rt <| thr <| p2r (a := _) (b := .bool _) rfl rfl <| ?_
  exact ⟨G, _, [], false, rfl, VLe.refl _, RngS.lit, by simp [h1'], rfl, hK⟩
 ·have h1' := of_dec (Eq.mp (Bool.not_eq_false' _) h1)
  have hx10 : xs.length ≤ 10 := h1'.1.2
  refine gy rfl <| vl mv <| gy rfl <| vl (ln Try.underlying22 rfl hv.len) <| gy rfl <| vl (lt rfl rfl) <| vl (pk rfl) <| nl <| thn <| ?_
  refine cdP rfl (fun h2 => ?_) (fun h2 => ?_)
  ·refine sq <| rg <| ?_
   refine vl asg <| vl (aB rfl) <| nl <| thn <| rt <| thr <| p2r (a := _) (b := .bool _) rfl rfl <| ?_
   exact ⟨G, _, [], false, rfl, VLe.refl _, RngS.lit, by simp; intro _; omega, rfl, hK⟩
  ·refine sk <| thn <| sq <| rg <| ?_
   refine vl asg <| nl <| thn <| sq <| rg <| vl mv <| vl (ln Try.underlying22 rfl hv.len) <| vl (aI rfl) <| nl <| thn <| sq <| sq <| rg <| vl mv <| vl (ln Try.underlying22 rfl hv.len) <| vl (mI rfl) <| nl <| thn <| ?_
   refine bk <| ?_
   refine lp (σ := Nat × View × Value × List Rn × Own) (fun s => [(0, v), (4, s.2.2.1), (5, .int .i64 (xs.length : Int)), (20, v), (21, .int .i64 (xs.length : Int)), (22, .int .i64 (s.1 : Int))]) (fun s w => s.1 ≤ xs.length ∧ VLe G s.2.1 ∧ rgl s.2.2.2.1 = idTo xs s.1 ∧ OR s.2.1 55 s.2.2.1 s.2.2.2.1 s.2.2.2.2 ∧ K e w s.2.1 (s.2.2.2.2 ++ L)) (fun s => xs.length - s.1) (0, G, .slice none 0 0, [], []) ⟨rfl, rfl, rfl, rfl, rfl, rfl, trivial⟩ ⟨Nat.zero_le _, VLe.refl _, rfl, ⟨OS.nil _ _, fun _ h => by cases h⟩, hK⟩ ?_
   rintro ⟨i, G1, u, rs, A⟩ g w ⟨hi, hG1, hrg, ho, hK⟩
   simp only at hi hG1 hrg ho hK
   have hrl : rs.length = i := by rw [← rg_len, hrg]; simp [idTo]
   refine sq <| rg <| ?_
   refine vl (lt rfl rfl) <| nl <| thn <| sq <| ?_
   refine cdP rfl (fun hc => ?_) (fun hc => ?_)
   ·have hi' : i < xs.length := by simp only at hc; omega
    have hv1 := hv.mono hG1
    have m1 := md (a := (i : Int) + xs.length - 1) (n := xs.length) (by omega)
    refine sk <| thn <| sq <| bk <| sq <| rg <| ?_
    refine vl (mI rfl) <| vl (ixn1 Try.underlying22 Ty.s3 rfl hv1.1 rfl om) <| vl (ldV hK Ty.o3 rfl (hv1.at om)) <| vl (aI rfl) <| vl (aI rfl) <| nl <| thn <| sq <| rg <| vl (mI rfl) <| vl mv <| vl (mI rfl) <| vl (mI rfl) <| vl (ad rfl rfl) <| vl (sb rfl rfl) <| vl (mI rfl) <| vl (rm rfl rfl) <| vl (ix1 Try.underlying22 Ty.s3 rfl hv1.1 rfl om om) <| vl (ldV hK Ty.o3 rfl (hv1.atI om om)) <| vl (bd [(0, _), (1, _)] Ty.p55 Ty.i55 rfl ⟨⟨rfl, rfl⟩, ⟨rfl, rfl⟩, trivial⟩ rfl) <| ?_
    refine al hK Ty.i55 rfl ?_
    intro b8 w hK
    refine soS hK Ty.i55 0 rfl rfl rfl rfl rfl rfl ?_
    intro w hK
    refine nl <| thn <| sq <| sq <| rg <| vl (aI rfl) <| nl <| thn <| bk <| ?_
    refine lp (σ := Nat × Value × Own) (fun s => [(0, v), (4, u), (5, .int .i64 (xs.length : Int)), (6, .int .i64 (i : Int)), (8, .pointer (some ⟨b8, 0, none⟩)), (9, .int .i64 ((s.1 : Int) + 1)), (20, v), (21, .int .i64 (xs.length : Int)), (22, .int .i64 (i : Int))]) (fun s w => s.1 ≤ 2 ∧ OS 1 3 s.2.1 ((afl xs i).take s.1).length (ints ((afl xs i).take s.1)) s.2.2 ∧ K e w G1 ((b8, row [.int .i64 xs[i], .int .i64 (xs.getD (((i : Int) + xs.length - 1) % xs.length).toNat 0), s.2.1] 55) :: (s.2.2 ++ (A ++ L)))) (fun s => 2 - s.1) (0, .slice none 0 0, []) ⟨rfl, rfl, rfl, rfl, rfl, rfl, rfl, rfl, rfl, trivial⟩ ⟨Nat.zero_le _, OS.nil _ _, hK⟩ ?_
    rintro ⟨k, u2, A2⟩ g w ⟨hk, ho2, hK⟩
    simp only at hk ho2 hK
    refine sq <| sq <| rg <| ?_
    refine vl (mI rfl) <| vl (le rfl rfl) <| nl <| thn <| ?_
    refine cdP rfl (fun hc2 => ?_) (fun hc2 => ?_)
    ·have hk2 : k < 2 := by simp only at hc2; omega
     have m2 := md (a := (i : Int) + ((k : Int) + 1)) (n := xs.length) (by omega)
     refine sk <| thn <| sq <| bk <| ?_
     refine rgs (fun w => K e w G1 L) (fun w => K _ w _ _) [U,U,U,U,U,U,U,U,U,U,U,U,U,U] 14 Ty.mixed rfl rfl (hK.drawn _) ?_
     intro w hK
     have hS : (fun w => K e w G1 L) w := (by first | exact K.dropL (K.dropL (K.drop1 hK)) | exact K.dropL (K.dropL (K.drop1 (K.drop1 hK))))
     refine xt (i := 0) rfl kr rfl rfl (fun w hK => (fa Try.underlying55 rfl Ty.z22 rfl)) hS <| ?_; refine xt (i := 2) rfl kr rfl rfl (fun w hK => mv) hS <| ?_; refine xt (i := 3) rfl kr rfl rfl (fun w hK => (mI rfl)) hS <| ?_; refine xt (i := 4) rfl kr rfl rfl (fun w hK => (mI rfl)) hS <| ?_; refine xt (i := 5) rfl kr rfl rfl (fun w hK => (ad rfl rfl)) hS <| ?_; refine xt (i := 6) rfl kr rfl rfl (fun w hK => (mI rfl)) hS <| ?_; refine xt (i := 7) rfl kr rfl rfl (fun w hK => (rm rfl rfl)) hS <| ?_; refine xt (i := 8) rfl kr rfl rfl (fun w hK => (ix1 Try.underlying22 Ty.s3 rfl hv1.1 rfl om om)) hS <| ?_; refine xt (i := 9) rfl kr rfl rfl (fun w hK => (ldV hK Ty.o3 rfl (by exact hv1.atI om om))) hS <| ?_
     refine xe2 (i := 1) (j := 10) kr rfl rfl rfl rfl ?_ ?_
     ·refine vl (ldO hK Ty.o22 0 rfl rfl rfl) <| ?_
      refine xnk ((by first | exact K.dropL (K.dropL (K.drop1 hK)) | exact K.dropL (K.dropL (K.drop1 (K.drop1 hK))))) fun hS => ?_
      refine xe (i := 10) kr rfl rfl ?_
      refine bsN [.tmp 51] hK Try.underlying22 Ty.i3 rfl rfl rfl rfl rfl rfl rfl rfl ?_
      intro b52 w hK
      refine xnk ((by first | exact K.dropL (K.dropL (K.drop1 hK)) | exact K.dropL (K.dropL (K.drop1 (K.drop1 hK))))) fun hS => ?_
      refine xe (i := 11) kr rfl rfl ?_
      replace hK : K e w G1 ((b52, row [.int .i64 (xs.getD (((i : Int) + ((k : Int) + 1)) % xs.length).toNat 0)] 3) :: (A2 ++ ((b8, row [.int .i64 xs[i], .int .i64 (xs.getD (((i : Int) + xs.length - 1) % xs.length).toNat 0), u2] 55) :: (A ++ L)))) := K.midc (A := [_]) hK
      refine apI1 (xs := (afl xs i).take k) (k := xs.getD (((i : Int) + ((k : Int) + 1)) % xs.length).toNat 0) hK Try.underlying22 Ty.i3 rfl rfl ho2 rfl (by simp; omega) fun v3 A3 w ho3 hK => ?_
      rw [afl_succ xs i k hk2] at ho3
      replace hK := K.mid (A := A3) (B := [_]) hK
      refine xnk (((K.dropL (K.dropL (K.drop1 hK))))) fun hS => ?_
      refine xt (i := 12) rfl kr rfl rfl (fun w hK => (fa Try.underlying55 rfl Ty.z22 rfl)) hS <| ?_
      refine xe (i := 13) kr rfl rfl ?_
      refine so hK Ty.i22 rfl 0 rfl rfl rfl ho3.one rfl ?_
      intro w hK
      refine xnk ((by first | exact K.dropL (K.dropL (K.drop1 hK)) | exact K.dropL (K.dropL (K.drop1 (K.drop1 hK))))) fun hS => ?_
      refine xd kr <| bkn <| thn <| rg <| vl (mI rfl) <| vl (ad rfl rfl) <| vl (aI rfl) <| nl <| thn <| ?_
      exact ⟨(k + 1, v3, A3), ⟨rfl, rfl, rfl, rfl, rfl, rfl, rfl, rfl, rfl, trivial⟩, ⟨by simp only; omega, ho3, hK⟩, by simp only; omega⟩
     ·refine bsN [.tmp 51] hK Try.underlying22 Ty.i3 rfl rfl rfl rfl rfl rfl rfl rfl ?_
      intro b52 w hK
      refine xnk ((by first | exact K.dropL (K.dropL (K.drop1 hK)) | exact K.dropL (K.dropL (K.drop1 (K.drop1 hK))))) fun hS => ?_
      refine xe (i := 1) kr rfl rfl ?_
      refine vl (ldO hK Ty.o22 1 rfl rfl rfl) <| ?_
      refine xnk ((by first | exact K.dropL (K.dropL (K.drop1 hK)) | exact K.dropL (K.dropL (K.drop1 (K.drop1 hK))))) fun hS => ?_
      refine xe (i := 11) kr rfl rfl ?_
      replace hK : K e w G1 ((b52, row [.int .i64 (xs.getD (((i : Int) + ((k : Int) + 1)) % xs.length).toNat 0)] 3) :: (A2 ++ ((b8, row [.int .i64 xs[i], .int .i64 (xs.getD (((i : Int) + xs.length - 1) % xs.length).toNat 0), u2] 55) :: (A ++ L)))) := K.midc (A := [_]) hK
      refine apI1 (xs := (afl xs i).take k) (k := xs.getD (((i : Int) + ((k : Int) + 1)) % xs.length).toNat 0) hK Try.underlying22 Ty.i3 rfl rfl ho2 rfl (by simp; omega) fun v3 A3 w ho3 hK => ?_
      rw [afl_succ xs i k hk2] at ho3
      replace hK := K.mid (A := A3) (B := [_]) hK
      refine xnk (((K.dropL (K.dropL (K.drop1 hK))))) fun hS => ?_
      refine xt (i := 12) rfl kr rfl rfl (fun w hK => (fa Try.underlying55 rfl Ty.z22 rfl)) hS <| ?_
      refine xe (i := 13) kr rfl rfl ?_
      refine so hK Ty.i22 rfl 0 rfl rfl rfl ho3.one rfl ?_
      intro w hK
      refine xnk ((by first | exact K.dropL (K.dropL (K.drop1 hK)) | exact K.dropL (K.dropL (K.drop1 (K.drop1 hK))))) fun hS => ?_
      refine xd kr <| bkn <| thn <| rg <| vl (mI rfl) <| vl (ad rfl rfl) <| vl (aI rfl) <| nl <| thn <| ?_
      exact ⟨(k + 1, v3, A3), ⟨rfl, rfl, rfl, rfl, rfl, rfl, rfl, rfl, rfl, trivial⟩, ⟨by simp only; omega, ho3, hK⟩, by simp only; omega⟩
    ·have hk2 : k = 2 := by simp only at hc2; omega
     subst hk2
     refine ex <| the <| the <| bkh <| thn <| rg <| ?_
     refine vl mv <| vl (lsO hK Ty.a55 Ty.s55 0 rfl rfl rfl) <| ?_
     refine bsS1 hK Try.underlying23 Ty.i55 rfl rfl rfl rfl rfl rfl ?_
     intro b57 w hK
     replace hK : K e w G1 ((b57, row (rc (xs[i], (xs.getD (((i : Int) + xs.length - 1) % xs.length).toNat 0), u2, afl xs i)) 55) :: (A ++ ((b8, row [.int .i64 xs[i], .int .i64 (xs.getD (((i : Int) + xs.length - 1) % xs.length).toNat 0), u2] 55) :: (A2 ++ L)))) := hK.cnt fun f => by simp only [List.map_append, List.map_cons, List.sum_append, List.sum_cons, rc]; omega
     refine apR1 (xs := rs) (k := (xs[i], (xs.getD (((i : Int) + xs.length - 1) % xs.length).toNat 0), u2, afl xs i)) (rc_one ho2.one) hK Try.underlying23 Ty.i55 rfl rfl rfl ho.os rfl om fun v3 A3 w ho3 hK => ?_
     replace hK := K.swap2 (K.dropX hK)
     obtain ⟨G2, hG2, hx', hK⟩ := K.pubO (xs := afl xs i) hK ho2
     have hres : rgl (rs ++ [((xs[i], (xs.getD (((i : Int) + xs.length - 1) % xs.length).toNat 0), u2, afl xs i) : Rn)]) = idTo xs (i + 1) := by rw [rgl_snoc, hrg, idTo_succ]; unfold idN; rw [← getD_of hi']; rfl
     refine vl asg <| nl <| bkn <| thn <| rg <| vl (ad rfl rfl) <| vl (mI rfl) <| nl <| thn <| ?_
     exact ⟨(i + 1, G2, v3, rs ++ [((xs[i], (xs.getD (((i : Int) + xs.length - 1) % xs.length).toNat 0), u2, afl xs i) : Rn)], A3), ⟨rfl, rfl, rfl, rfl, rfl, rfl, trivial⟩, ⟨hi', hG1.trans hG2, hres, ⟨ho3, fun x hx => by
      rcases List.mem_append.1 hx with h | h
      ·exact (ho.aft x h).mono hG2
      ·rw [List.mem_singleton.1 h]; exact hx'⟩, hK⟩, by simp only; omega⟩
   ·have hi' : i = xs.length := by simp only at hc; omega
    subst hi'
    refine ex <| the <| the <| bkh <| thn <| sq <| rg <| ?_
    refine vl mv <| vl asg <| vl (aB rfl) <| nl <| thn <| rt <| p2r (a := _) (b := .bool _) rfl rfl <| ?_
    obtain ⟨G2, hG2, hR, hK⟩ := ho.pub hK
    exact ⟨G2, _, rs, true, rfl, hG1.trans hG2, hR, by simp [h1']; omega, hrg, hK⟩
end
end Go.Proofs.Ytbkfnnifkdgbkaa
