/- Contracts of the functions that make new rings and worlds. Contracts of the functions that hold worlds against each other. Conditions: those that each row states. -/
import Derived.Test.YtjfjnmbgimfmaaaGreatWo
import Derived.Test.YtjfjnmbgimfmaaaGreatSl
namespace Go.Proofs.YtjfjnmbgimfmaaaGreat
open Go Go.Ro

section
variable {e w : World} {G : View} {L A : Own} {v u : Value} {xs ys : List Int} {ls : List Ls} {rs : List Rn} {zs : List It} {W : Wv} {wd : Wd} {a b k id other : Int} {i j bk o : Nat}

theorem specNodesValid_c (hK : K e w G L) (hv : IntS G v xs) : Ret Tryz.prog 74 #[v] w (fun r w' => r = .bool (dec (NdsOk xs)) ∧ K e w' G L) := by
  have hle := hv.le
  refine enter1 (args := [v]) Tryz.func74 rfl rfl rfl rfl ?_
  refine sq <| rg <| ?_
  refine vl (asv (v := .bool _) rfl) <| nl <| thn <| sq <| rg <| vl mv <| vl (ln Tryz.underlying26 rfl hv.len) <| ?_
  refine cl Tryz.call49 rfl (l6In_c (C := fun w => K _ w _ _) hK) ?_
  rintro _ w ⟨rfl, hK⟩
  refine vl (mvv (v := .bool _) rfl) <| ?_
  refine splP (t := 6) rfl (fun h1 => ?_) (fun h1 => ?_)
  · refine gy rfl <| vl mv <| gy rfl <| ?_
    refine cl Tryz.call46 rfl (l1Nodes_c hK (by assumption)) ?_
    rintro _ w ⟨rfl, hK⟩
    refine vl (pk rfl) <| vl (asv (v := .bool _) rfl) <| nl <| thn <| rt <| p1r (a := .bool _) rfl <| ?_
    exact ⟨congrArg Value.bool (dec_congr ⟨fun h => ⟨by omega, h⟩, fun h => h.2⟩), hK⟩
  · refine gn rfl <| gn rfl <| vl (pk rfl) <| vl (asv (v := .bool _) rfl) <| nl <| thn <| rt <| p1r (a := .bool _) rfl <| ?_
    exact ⟨by rw [dec_f fun h => h1 (by have := h.1; omega)], hK⟩
set_option maxHeartbeats 1000000 in
theorem l3Ideal_c (hK : K e w G L) (hv : IntS G v xs) (hl : xs.length ≤ 100000) : Ret Tryz.prog 75 #[v] w (fun r w' => ∃ G' rs A, VLe G G' ∧ OR G' 39 r rs A ∧ rgl rs = idl xs ∧ K e w' G' (A ++ L)) := by
  have hle := hv.le
  refine enter1 (args := [v]) Tryz.func75 rfl rfl rfl rfl ?_
  refine sq <| rg <| ?_
  refine vl asg <| nl <| thn <| sq <| rg <| ?_
  refine bs0 hK Tryz.underlying23 Ty.i39 ?_
  intro b6 w hK
  refine vl asg <| nl <| thn <| sq <| rg <| vl mv <| vl (ln Tryz.underlying26 rfl hv.len) <| vl (asv (v := .int _ _) rfl) <| nl <| thn <| sq <| sq <| rg <| vl (asv (v := .int _ _) rfl) <| nl <| thn <| ?_
  refine bk <| ?_
  refine lp (σ := Nat × View × Value × List Rn × Own) (fun s => [(0, v), (3, s.2.2.1), (4, .int .i64 (xs.length : Int)), (5, .int .i64 (s.1 : Int))]) (fun s w => s.1 ≤ xs.length ∧ VLe G s.2.1 ∧ rgl s.2.2.2.1 = idTo xs s.1 ∧ OR s.2.1 39 s.2.2.1 s.2.2.2.1 s.2.2.2.2 ∧ K e w s.2.1 (s.2.2.2.2 ++ L)) (fun s => xs.length - s.1) (0, G, .slice (some ⟨b6, 0, none⟩) 0 0, [], [(b6, row [] 39)]) ⟨rfl, rfl, rfl, rfl, trivial⟩ ⟨Nat.zero_le _, VLe.refl _, rfl, ⟨OS.none, fun _ h => by cases h⟩, hK⟩ ?_
  rintro ⟨i, G1, u, rs, A⟩ g w ⟨hi, hG1, hrg, ho, hK⟩
  simp only at hi hG1 hrg ho hK
  have hrl : rs.length = i := by rw [← rg_len, hrg]; simp [idTo]
  refine sq <| sq <| rg <| ?_
  refine vl (mvv (v := .int _ _) rfl) <| vl (mvv (v := .int _ _) rfl) <| vl (lt rfl rfl) <| nl <| thn <| ?_
  refine cdP rfl (fun hc => ?_) (fun hc => ?_)
  · have hi' : i < xs.length := by simp only at hc; omega
    have hv1 := hv.mono hG1
    have m1 := md (a := (i : Int) + xs.length - 1) (n := xs.length) (by omega)
    have m2 := md (a := (i : Int) + 1) (n := xs.length) (by omega)
    have m3 := md (a := (i : Int) + 2) (n := xs.length) (by omega)
    refine sk <| thn <| sq <| bk <| ?_
    refine rgs (fun w => K e w G1 L) (fun w => K _ w _ _) [false, false, false, false, false, false, false, false, false, false, false, false, false, false, false, false, false, false, false, false, false, false, false, false, false, false, false, false, false, false, false, false, false] 33 Ty.mixed rfl rfl (hK.drawn _) ?_
    intro w hK
    have hS : (fun w => K e w G1 L) w := K.sl hK (by repeat' (first | exact List.Sublist.refl _ | refine List.Sublist.cons_cons _ ?_ | refine List.Sublist.cons _ ?_ | refine List.Sublist.trans ?_ (List.sublist_append_right _ _)))
    refine xt (i := 0) (l' := [true, false, false, false, false, false, false, false, false, false, false, false, false, false, false, false, false, false, false, false, false, false, false, false, false, false, false, false, false, false, false, false, false]) rfl (by kernel_rfl) rfl rfl (fun w hK => mv) hS <| ?_; refine xt (i := 1) (l' := [true, true, false, false, false, false, false, false, false, false, false, false, false, false, false, false, false, false, false, false, false, false, false, false, false, false, false, false, false, false, false, false, false]) rfl (by kernel_rfl) rfl rfl (fun w hK => mv) hS <| ?_; refine xt (i := 2) (l' := [true, true, true, false, false, false, false, false, false, false, false, false, false, false, false, false, false, false, false, false, false, false, false, false, false, false, false, false, false, false, false, false, false]) rfl (by kernel_rfl) rfl rfl (fun w hK => (mvv (v := .int _ _) rfl)) hS <| ?_; refine xt (i := 3) (l' := [true, true, true, true, false, false, false, false, false, false, false, false, false, false, false, false, false, false, false, false, false, false, false, false, false, false, false, false, false, false, false, false, false]) rfl (by kernel_rfl) rfl rfl (fun w hK => (ixn1 Tryz.underlying26 Ty.s3 rfl hv1.1 rfl (by first | omega | (simp only; omega)))) hS <| ?_; refine xt (i := 4) (l' := [true, true, true, true, true, false, false, false, false, false, false, false, false, false, false, false, false, false, false, false, false, false, false, false, false, false, false, false, false, false, false, false, false]) rfl (by kernel_rfl) rfl rfl (fun w hK => (ldV hK Ty.o3 rfl (by exact hv1.at (by first | omega | (simp only; omega))))) hS <| ?_; refine xt (i := 5) (l' := [true, true, true, true, true, true, false, false, false, false, false, false, false, false, false, false, false, false, false, false, false, false, false, false, false, false, false, false, false, false, false, false, false]) rfl (by kernel_rfl) rfl rfl (fun w hK => mv) hS <| ?_; refine xt (i := 6) (l' := [true, true, true, true, true, true, true, false, false, false, false, false, false, false, false, false, false, false, false, false, false, false, false, false, false, false, false, false, false, false, false, false, false]) rfl (by kernel_rfl) rfl rfl (fun w hK => (mvv (v := .int _ _) rfl)) hS <| ?_; refine xt (i := 7) (l' := [true, true, true, true, true, true, true, true, false, false, false, false, false, false, false, false, false, false, false, false, false, false, false, false, false, false, false, false, false, false, false, false, false]) rfl (by kernel_rfl) rfl rfl (fun w hK => (mvv (v := .int _ _) rfl)) hS <| ?_; refine xt (i := 8) (l' := [true, true, true, true, true, true, true, true, true, false, false, false, false, false, false, false, false, false, false, false, false, false, false, false, false, false, false, false, false, false, false, false, false]) rfl (by kernel_rfl) rfl rfl (fun w hK => (ad rfl rfl (by first | omega | (simp only; omega)) (by first | omega | (simp only; omega)))) hS <| ?_; refine xt (i := 9) (l' := [true, true, true, true, true, true, true, true, true, true, false, false, false, false, false, false, false, false, false, false, false, false, false, false, false, false, false, false, false, false, false, false, false]) rfl (by kernel_rfl) rfl rfl (fun w hK => (sb rfl rfl (by first | omega | (simp only; omega)) (by first | omega | (simp only; omega)))) hS <| ?_; refine xt (i := 10) (l' := [true, true, true, true, true, true, true, true, true, true, true, false, false, false, false, false, false, false, false, false, false, false, false, false, false, false, false, false, false, false, false, false, false]) rfl (by kernel_rfl) rfl rfl (fun w hK => (mvv (v := .int _ _) rfl)) hS <| ?_; refine xt (i := 11) (l' := [true, true, true, true, true, true, true, true, true, true, true, true, false, false, false, false, false, false, false, false, false, false, false, false, false, false, false, false, false, false, false, false, false]) rfl (by kernel_rfl) rfl rfl (fun w hK => (rm rfl rfl (by first | omega | (simp only; omega)) (by first | omega | (simp only; omega)))) hS <| ?_; refine xt (i := 12) (l' := [true, true, true, true, true, true, true, true, true, true, true, true, true, false, false, false, false, false, false, false, false, false, false, false, false, false, false, false, false, false, false, false, false]) rfl (by kernel_rfl) rfl rfl (fun w hK => (ix1 Tryz.underlying26 Ty.s3 rfl hv1.1 rfl (by first | omega | (simp only; omega)) (by first | omega | (simp only; omega)))) hS <| ?_; refine xt (i := 13) (l' := [true, true, true, true, true, true, true, true, true, true, true, true, true, true, false, false, false, false, false, false, false, false, false, false, false, false, false, false, false, false, false, false, false]) rfl (by kernel_rfl) rfl rfl (fun w hK => (ldV hK Ty.o3 rfl (by exact hv1.atI (by first | omega | (simp only; omega)) (by first | omega | (simp only; omega))))) hS <| ?_; refine xt (i := 14) (l' := [true, true, true, true, true, true, true, true, true, true, true, true, true, true, true, false, false, false, false, false, false, false, false, false, false, false, false, false, false, false, false, false, false]) rfl (by kernel_rfl) rfl rfl (fun w hK => mv) hS <| ?_; refine xt (i := 15) (l' := [true, true, true, true, true, true, true, true, true, true, true, true, true, true, true, true, false, false, false, false, false, false, false, false, false, false, false, false, false, false, false, false, false]) rfl (by kernel_rfl) rfl rfl (fun w hK => (mvv (v := .int _ _) rfl)) hS <| ?_; refine xt (i := 16) (l' := [true, true, true, true, true, true, true, true, true, true, true, true, true, true, true, true, true, false, false, false, false, false, false, false, false, false, false, false, false, false, false, false, false]) rfl (by kernel_rfl) rfl rfl (fun w hK => (ad rfl rfl (by first | omega | (simp only; omega)) (by first | omega | (simp only; omega)))) hS <| ?_; refine xt (i := 17) (l' := [true, true, true, true, true, true, true, true, true, true, true, true, true, true, true, true, true, true, false, false, false, false, false, false, false, false, false, false, false, false, false, false, false]) rfl (by kernel_rfl) rfl rfl (fun w hK => (mvv (v := .int _ _) rfl)) hS <| ?_; refine xt (i := 18) (l' := [true, true, true, true, true, true, true, true, true, true, true, true, true, true, true, true, true, true, true, false, false, false, false, false, false, false, false, false, false, false, false, false, false]) rfl (by kernel_rfl) rfl rfl (fun w hK => (rm rfl rfl (by first | omega | (simp only; omega)) (by first | omega | (simp only; omega)))) hS <| ?_; refine xt (i := 19) (l' := [true, true, true, true, true, true, true, true, true, true, true, true, true, true, true, true, true, true, true, true, false, false, false, false, false, false, false, false, false, false, false, false, false]) rfl (by kernel_rfl) rfl rfl (fun w hK => (ix1 Tryz.underlying26 Ty.s3 rfl hv1.1 rfl (by first | omega | (simp only; omega)) (by first | omega | (simp only; omega)))) hS <| ?_; refine xt (i := 20) (l' := [true, true, true, true, true, true, true, true, true, true, true, true, true, true, true, true, true, true, true, true, true, false, false, false, false, false, false, false, false, false, false, false, false]) rfl (by kernel_rfl) rfl rfl (fun w hK => (ldV hK Ty.o3 rfl (by exact hv1.atI (by first | omega | (simp only; omega)) (by first | omega | (simp only; omega))))) hS <| ?_; refine xt (i := 21) (l' := [true, true, true, true, true, true, true, true, true, true, true, true, true, true, true, true, true, true, true, true, true, true, false, false, false, false, false, false, false, false, false, false, false]) rfl (by kernel_rfl) rfl rfl (fun w hK => mv) hS <| ?_; refine xt (i := 22) (l' := [true, true, true, true, true, true, true, true, true, true, true, true, true, true, true, true, true, true, true, true, true, true, true, false, false, false, false, false, false, false, false, false, false]) rfl (by kernel_rfl) rfl rfl (fun w hK => (mvv (v := .int _ _) rfl)) hS <| ?_; refine xt (i := 23) (l' := [true, true, true, true, true, true, true, true, true, true, true, true, true, true, true, true, true, true, true, true, true, true, true, true, false, false, false, false, false, false, false, false, false]) rfl (by kernel_rfl) rfl rfl (fun w hK => (ad rfl rfl (by first | omega | (simp only; omega)) (by first | omega | (simp only; omega)))) hS <| ?_; refine xt (i := 24) (l' := [true, true, true, true, true, true, true, true, true, true, true, true, true, true, true, true, true, true, true, true, true, true, true, true, true, false, false, false, false, false, false, false, false]) rfl (by kernel_rfl) rfl rfl (fun w hK => (mvv (v := .int _ _) rfl)) hS <| ?_; refine xt (i := 25) (l' := [true, true, true, true, true, true, true, true, true, true, true, true, true, true, true, true, true, true, true, true, true, true, true, true, true, true, false, false, false, false, false, false, false]) rfl (by kernel_rfl) rfl rfl (fun w hK => (rm rfl rfl (by first | omega | (simp only; omega)) (by first | omega | (simp only; omega)))) hS <| ?_; refine xt (i := 26) (l' := [true, true, true, true, true, true, true, true, true, true, true, true, true, true, true, true, true, true, true, true, true, true, true, true, true, true, true, false, false, false, false, false, false]) rfl (by kernel_rfl) rfl rfl (fun w hK => (ix1 Tryz.underlying26 Ty.s3 rfl hv1.1 rfl (by first | omega | (simp only; omega)) (by first | omega | (simp only; omega)))) hS <| ?_; refine xt (i := 27) (l' := [true, true, true, true, true, true, true, true, true, true, true, true, true, true, true, true, true, true, true, true, true, true, true, true, true, true, true, true, false, false, false, false, false]) rfl (by kernel_rfl) rfl rfl (fun w hK => (ldV hK Ty.o3 rfl (by exact hv1.atI (by first | omega | (simp only; omega)) (by first | omega | (simp only; omega))))) hS <| ?_
    refine xe (i := 28) (l' := [true, true, true, true, true, true, true, true, true, true, true, true, true, true, true, true, true, true, true, true, true, true, true, true, true, true, true, true, true, false, false, false, false]) (by kernel_rfl) rfl rfl ?_
    refine bsN [.tmp 34, .tmp 41] hK Tryz.underlying26 Ty.i3 rfl rfl rfl rfl rfl rfl rfl rfl ?_
    intro b42 w hK
    replace hS : (fun w => K e w G1 L) w := K.sl hK (by repeat' (first | exact List.Sublist.refl _ | refine List.Sublist.cons_cons _ ?_ | refine List.Sublist.cons _ ?_ | refine List.Sublist.trans ?_ (List.sublist_append_right _ _)))
    refine xn (fun w => K e w G1 L) hS (fun _ h => h) ?_
    refine xe (i := 29) (l' := [true, true, true, true, true, true, true, true, true, true, true, true, true, true, true, true, true, true, true, true, true, true, true, true, true, true, true, true, true, true, false, false, false]) (by kernel_rfl) rfl rfl ?_
    refine vl (bd [(0, _), (1, _), (2, _)] Ty.p39 Ty.i39 rfl ⟨⟨rfl, rfl⟩, ⟨rfl, rfl⟩, ⟨rfl, rfl⟩, trivial⟩ rfl) <| ?_
    replace hS : (fun w => K e w G1 L) w := K.sl hK (by repeat' (first | exact List.Sublist.refl _ | refine List.Sublist.cons_cons _ ?_ | refine List.Sublist.cons _ ?_ | refine List.Sublist.trans ?_ (List.sublist_append_right _ _)))
    refine xn (fun w => K e w G1 L) hS (fun _ h => h) ?_
    refine xe (i := 30) (l' := [true, true, true, true, true, true, true, true, true, true, true, true, true, true, true, true, true, true, true, true, true, true, true, true, true, true, true, true, true, true, true, false, false]) (by kernel_rfl) rfl rfl ?_
    refine bsS1 hK Tryz.underlying23 Ty.i39 rfl rfl rfl rfl rfl rfl ?_
    intro b44 w hK
    replace hS : (fun w => K e w G1 L) w := K.sl hK (by repeat' (first | exact List.Sublist.refl _ | refine List.Sublist.cons_cons _ ?_ | refine List.Sublist.cons _ ?_ | refine List.Sublist.trans ?_ (List.sublist_append_right _ _)))
    refine xn (fun w => K e w G1 L) hS (fun _ h => h) ?_
    refine xe (i := 31) (l' := [true, true, true, true, true, true, true, true, true, true, true, true, true, true, true, true, true, true, true, true, true, true, true, true, true, true, true, true, true, true, true, true, false]) (by kernel_rfl) rfl rfl ?_
    replace hK : K e w G1 ((b44, row (rc (xs[i], xs.getD (((i : Int) + xs.length - 1) % xs.length).toNat 0, .slice (some ⟨b42, 0, none⟩) 2 2, [xs.getD (((i : Int) + 1) % xs.length).toNat 0, xs.getD (((i : Int) + 2) % xs.length).toNat 0])) 39) :: (A ++ ((b42, row [.int .i64 (xs.getD (((i : Int) + 1) % xs.length).toNat 0), .int .i64 (xs.getD (((i : Int) + 2) % xs.length).toNat 0)] 3) :: L))) := (show K e w G1 ((b44, row (rc (xs[i], xs.getD (((i : Int) + xs.length - 1) % xs.length).toNat 0, .slice (some ⟨b42, 0, none⟩) 2 2, [xs.getD (((i : Int) + 1) % xs.length).toNat 0, xs.getD (((i : Int) + 2) % xs.length).toNat 0])) 39) :: ([(b42, row [.int .i64 (xs.getD (((i : Int) + 1) % xs.length).toNat 0), .int .i64 (xs.getD (((i : Int) + 2) % xs.length).toNat 0)] 3)] ++ (A ++ L))) from hK).midc
    refine apR1 (xs := rs) (k := ((xs[i], xs.getD (((i : Int) + xs.length - 1) % xs.length).toNat 0, .slice (some ⟨b42, 0, none⟩) 2 2, [xs.getD (((i : Int) + 1) % xs.length).toNat 0, xs.getD (((i : Int) + 2) % xs.length).toNat 0]) : Rn)) (rc_one rfl) hK Tryz.underlying23 Ty.i39 rfl rfl rfl ho.os rfl (by first | omega | (simp only; omega)) fun v2 A2 w ho2 hK => ?_
    obtain ⟨G2, hG2, hx', hK⟩ := K.pubO (v := .slice (some ⟨b42, 0, none⟩) 2 2) (xs := [xs.getD (((i : Int) + 1) % xs.length).toNat 0, xs.getD (((i : Int) + 2) % xs.length).toNat 0]) (A := [(b42, _)]) (K.mid (A := A2) (B := [_]) hK) (OS.lit (by simp) (by simp))
    have hres : rgl (rs ++ [((xs[i], xs.getD (((i : Int) + xs.length - 1) % xs.length).toNat 0, .slice (some ⟨b42, 0, none⟩) 2 2, [xs.getD (((i : Int) + 1) % xs.length).toNat 0, xs.getD (((i : Int) + 2) % xs.length).toNat 0]) : Rn)]) = idTo xs (i + 1) := by rw [rgl_snoc, hrg, idTo_succ]; unfold idN; rw [← getD_of hi']; rfl
    replace hS : (fun w => K e w G1 L) w := (K.vle (K.dropL hK) hG2)
    refine xn (fun w => K e w G1 L) hS (fun _ h => h) ?_
    refine xt (i := 32) (l' := [true, true, true, true, true, true, true, true, true, true, true, true, true, true, true, true, true, true, true, true, true, true, true, true, true, true, true, true, true, true, true, true, true]) rfl (by kernel_rfl) rfl rfl (fun w hK => asg) hS <| ?_; refine xd (by kernel_rfl) <| bkn <| thn <| rg <| vl (mvv (v := .int _ _) rfl) <| vl (ad rfl rfl (by first | omega | (simp only; omega)) (by first | omega | (simp only; omega))) <| vl (asv (v := .int _ _) rfl) <| nl <| thn <| ?_
    exact ⟨(i + 1, G2, v2, rs ++ [((xs[i], xs.getD (((i : Int) + xs.length - 1) % xs.length).toNat 0, .slice (some ⟨b42, 0, none⟩) 2 2, [xs.getD (((i : Int) + 1) % xs.length).toNat 0, xs.getD (((i : Int) + 2) % xs.length).toNat 0]) : Rn)], A2), ⟨rfl, rfl, rfl, rfl, trivial⟩, ⟨hi', hG1.trans hG2, hres, ⟨ho2, fun x hx => by
      rcases List.mem_append.1 hx with h | h
      · exact (ho.aft x h).mono hG2
      · rw [List.mem_singleton.1 h]; exact hx'⟩, hK⟩, by simp only; omega⟩
  · have hi' : i = xs.length := by simp only at hc; omega
    subst hi'
    refine ex <| the <| the <| bkh <| thn <| sq <| rg <| ?_
    refine vl mv <| vl asg <| nl <| thn <| rt <| p1r (a := _) rfl <| ?_
    exact ⟨G1, rs, A, hG1, ho, hrg, hK⟩

theorem specRingNew_c (hK : K e w G L) (hv : IntS G v xs) : Ret Tryz.prog 55 #[v] w (fun r w' => ∃ G' u rs b, r = .tuple #[u, .bool b] ∧ VLe G G' ∧ RngS G' u rs ∧ (b = true ↔ NdsOk xs ∧ 3 ≤ xs.length) ∧ rgl rs = (if b then idl xs else []) ∧ K e w' G' L) := by
  have hle := hv.le
  refine enter2 (args := [v]) Tryz.func55 rfl rfl rfl rfl ?_
  refine sq <| rg <| ?_
  refine vl asg <| vl (asv (v := .bool _) rfl) <| nl <| thn <| sq <| sq <| rg <| vl mv <| ?_
  refine cl Tryz.call74 rfl (specNodesValid_c hK hv) ?_
  rintro _ w ⟨rfl, hK⟩
  refine vl (ntB rfl) <| vl (mvv (v := .bool _) rfl) <| ?_
  refine spl (t := 7) rfl (fun h1 => ?_) (fun h1 => ?_)
  · have h1' := not_dec (Eq.mp (Bool.not_eq_true' _) h1)
    refine gn rfl <| gn rfl <| gn rfl <| vl (pk rfl) <| nl <| thn <| ?_
    refine cdt rfl ?_
    refine sq <| rg <| ?_
    refine bs0 hK Tryz.underlying23 Ty.i39 ?_
    intro b12 w hK
    refine vl asg <| vl (asv (v := .bool _) rfl) <| nl <| thn <| rt <| thr <| p2r (a := _) (b := .bool _) rfl rfl <| ?_
    exact ⟨G, _, [], false, rfl, VLe.refl _, RngS.lit, by simp [h1'], rfl, hK.drop1⟩
  · have h1' := of_dec (Eq.mp (Bool.not_eq_false' _) h1)
    refine gy rfl <| vl mv <| gy rfl <| vl (ln Tryz.underlying26 rfl hv.len) <| gy rfl <| vl (lt rfl rfl) <| vl (pk rfl) <| nl <| thn <| ?_
    refine cdP rfl (fun h2 => ?_) (fun h2 => ?_)
    · refine sq <| rg <| ?_
      refine bs0 hK Tryz.underlying23 Ty.i39 ?_
      intro b12 w hK
      refine vl asg <| vl (asv (v := .bool _) rfl) <| nl <| thn <| rt <| thr <| p2r (a := _) (b := .bool _) rfl rfl <| ?_
      exact ⟨G, _, [], false, rfl, VLe.refl _, RngS.lit, by simp; intro _; omega, rfl, hK.drop1⟩
    · refine sk <| thn <| sq <| rg <| ?_
      refine vl mv <| ?_
      refine cl Tryz.call75 rfl (l3Ideal_c hK hv (by have := h1'.1; omega)) ?_
      rintro u w ⟨G1, rs, A, hG1, ho, hrg, hK⟩
      obtain ⟨G2, hG2, hR, hK⟩ := ho.pub hK
      refine vl asg <| vl (asv (v := .bool _) rfl) <| nl <| thn <| rt <| p2r (a := _) (b := .bool _) rfl rfl <| ?_
      exact ⟨G2, _, rs, true, rfl, hG1.trans hG2, hR, by simp [h1']; omega, hrg, hK⟩

end
end Go.Proofs.YtjfjnmbgimfmaaaGreat
namespace Go.Proofs.YtjfjnmbgimfmaaaGreat
open Go Go.Ro

section
variable {e w : World} {G : View} {L A : Own} {v u : Value} {xs ys : List Int} {ls ms : List Ls} {rs qs : List Rn} {zs ts : List It} {W W' : Wv} {wd wd' : Wd} {a b k id other : Int} {i j bk o : Nat}

end
end Go.Proofs.YtjfjnmbgimfmaaaGreat