/- Contracts of the functions that make new worlds, and of ideal rings. Contracts of the functions on ideal rings. Contracts of the functions that copy, measure and compare worlds. Conditions: those that each row states. -/
import Derived.Test.YtjfjnmbgimfmaaaGreatWm
import Derived.Test.YtjfjnmbgimfmaaaGreatWo
import Derived.Test.YtjfjnmbgimfmaaaGreatSe
namespace Go.Proofs.YtjfjnmbgimfmaaaGreat
open Go Go.Ro

section
variable {e w : World} {G : View} {L A : Own} {v u : Value} {xs ys : List Int} {ls ms : List Ls} {rs qs : List Rn} {zs ts : List It} {W W' : Wv} {wd wd' : Wd} {a b k id other : Int} {i j bk o : Nat}

theorem l51Leases_c (hK : K e w G L) (hv : IntS G v xs) (hl : xs.length ≤ 100000) : Ret Tryz.prog 56 #[v, .int .i64 k] w (fun r w' => ∃ A, OS 3 35 r xs.length ((xs.map fun i => (i, i, k)).flatMap lc) A ∧ K e w' G (A ++ L)) := by
  refine enter1 (args := [v, .int .i64 k]) Tryz.func56 rfl rfl rfl rfl ?_
  refine sq <| rg <| ?_
  refine vl asg <| nl <| thn <| sq <| rg <| ?_
  refine bs0 hK Tryz.underlying24 Ty.i35 ?_
  intro b7 w hK
  refine vl asg <| nl <| thn <| sq <| sq <| rg <| vl (asv (v := .int _ _) rfl) <| nl <| thn <| bk <| ?_
  refine lp (σ := Nat × Value × Own) (fun s => [(0, v), (1, .int .i64 k), (5, s.2.1), (6, .int .i64 (s.1 : Int))]) (fun s w => s.1 ≤ xs.length ∧ OS 3 35 s.2.1 ((xs.take s.1).map fun x => ((x, x, k) : Ls)).length (((xs.take s.1).map fun x => ((x, x, k) : Ls)).flatMap lc) s.2.2 ∧ K e w G (s.2.2 ++ L)) (fun s => xs.length - s.1) (0, .slice (some ⟨b7, 0, none⟩) 0 0, [(b7, row [] 35)]) ⟨rfl, rfl, rfl, rfl, trivial⟩ ⟨Nat.zero_le _, OS.none, hK⟩ ?_
  rintro ⟨i, u, A⟩ g w ⟨hi, ho, hK⟩
  simp only at hi ho hK
  refine sq <| sq <| rg <| ?_
  refine vl (mvv (v := .int _ _) rfl) <| vl mv <| vl (ln Tryz.underlying26 rfl hv.len) <| vl (lt rfl rfl) <| nl <| thn <| ?_
  refine cdP rfl (fun hc => ?_) (fun hc => ?_)
  · have hi' : i < xs.length := by simp only at hc; omega
    refine sk <| thn <| sq <| bk <| ?_
    refine rgs (fun w => K e w G L) (fun w => K _ w _ _) [false, false, false, false, false, false, false, false, false, false, false, false, false, false] 14 Ty.mixed rfl rfl (hK.drawn _) ?_
    intro w hK
    have hS : (fun w => K e w G L) w := K.sl hK (by repeat' (first | exact List.Sublist.refl _ | refine List.Sublist.cons_cons _ ?_ | refine List.Sublist.cons _ ?_ | refine List.Sublist.trans ?_ (List.sublist_append_right _ _)))
    refine xt (i := 0) (l' := [true, false, false, false, false, false, false, false, false, false, false, false, false, false]) rfl (by kernel_rfl) rfl rfl (fun w hK => mv) hS <| ?_; refine xt (i := 1) (l' := [true, true, false, false, false, false, false, false, false, false, false, false, false, false]) rfl (by kernel_rfl) rfl rfl (fun w hK => mv) hS <| ?_; refine xt (i := 2) (l' := [true, true, true, false, false, false, false, false, false, false, false, false, false, false]) rfl (by kernel_rfl) rfl rfl (fun w hK => (mvv (v := .int _ _) rfl)) hS <| ?_; refine xt (i := 3) (l' := [true, true, true, true, false, false, false, false, false, false, false, false, false, false]) rfl (by kernel_rfl) rfl rfl (fun w hK => (ixn1 Tryz.underlying26 Ty.s3 rfl hv.1 rfl (by first | omega | (simp only; omega)))) hS <| ?_; refine xt (i := 4) (l' := [true, true, true, true, true, false, false, false, false, false, false, false, false, false]) rfl (by kernel_rfl) rfl rfl (fun w hK => (ldV hK Ty.o3 rfl (by exact hv.at (by first | omega | (simp only; omega))))) hS <| ?_; refine xt (i := 5) (l' := [true, true, true, true, true, true, false, false, false, false, false, false, false, false]) rfl (by kernel_rfl) rfl rfl (fun w hK => mv) hS <| ?_; refine xt (i := 6) (l' := [true, true, true, true, true, true, true, false, false, false, false, false, false, false]) rfl (by kernel_rfl) rfl rfl (fun w hK => (mvv (v := .int _ _) rfl)) hS <| ?_; refine xt (i := 7) (l' := [true, true, true, true, true, true, true, true, false, false, false, false, false, false]) rfl (by kernel_rfl) rfl rfl (fun w hK => (ixn1 Tryz.underlying26 Ty.s3 rfl hv.1 rfl (by first | omega | (simp only; omega)))) hS <| ?_; refine xt (i := 8) (l' := [true, true, true, true, true, true, true, true, true, false, false, false, false, false]) rfl (by kernel_rfl) rfl rfl (fun w hK => (ldV hK Ty.o3 rfl (by exact hv.at (by first | omega | (simp only; omega))))) hS <| ?_; refine xt (i := 9) (l' := [true, true, true, true, true, true, true, true, true, true, false, false, false, false]) rfl (by kernel_rfl) rfl rfl (fun w hK => (mvv (v := .int _ _) rfl)) hS <| ?_
    refine xe (i := 10) (l' := [true, true, true, true, true, true, true, true, true, true, true, false, false, false]) (by kernel_rfl) rfl rfl ?_
    refine vl (bd [(0, _), (1, _), (2, _)] Ty.p35 Ty.i35 rfl ⟨⟨rfl, rfl⟩, ⟨rfl, rfl⟩, ⟨rfl, rfl⟩, trivial⟩ rfl) <| ?_
    replace hS : (fun w => K e w G L) w := K.sl hK (by repeat' (first | exact List.Sublist.refl _ | refine List.Sublist.cons_cons _ ?_ | refine List.Sublist.cons _ ?_ | refine List.Sublist.trans ?_ (List.sublist_append_right _ _)))
    refine xn (fun w => K e w G L) hS (fun _ h => h) ?_
    refine xe (i := 11) (l' := [true, true, true, true, true, true, true, true, true, true, true, true, false, false]) (by kernel_rfl) rfl rfl ?_
    refine bsS1 hK Tryz.underlying24 Ty.i35 rfl rfl rfl rfl rfl rfl ?_
    intro b25 w hK
    replace hS : (fun w => K e w G L) w := K.sl hK (by repeat' (first | exact List.Sublist.refl _ | refine List.Sublist.cons_cons _ ?_ | refine List.Sublist.cons _ ?_ | refine List.Sublist.trans ?_ (List.sublist_append_right _ _)))
    refine xn (fun w => K e w G L) hS (fun _ h => h) ?_
    refine xe (i := 12) (l' := [true, true, true, true, true, true, true, true, true, true, true, true, true, false]) (by kernel_rfl) rfl rfl ?_
    refine apE1 (c := lc) (k := (xs[i], xs[i], k)) (fun _ => rfl) rfl hK Tryz.underlying24 Ty.i35 rfl rfl rfl ho rfl (by simp; omega) fun v' A' w ho hK => ?_
    replace hS : (fun w => K e w G L) w := (K.dropL hK)
    refine xn (fun w => K e w G L) hS (fun _ h => h) ?_
    refine xt (i := 13) (l' := [true, true, true, true, true, true, true, true, true, true, true, true, true, true]) rfl (by kernel_rfl) rfl rfl (fun w hK => asg) hS <| ?_; refine xd (by kernel_rfl) <| bkn <| thn <| rg <| vl (mvv (v := .int _ _) rfl) <| vl (ad rfl rfl (by first | omega | (simp only; omega)) (by first | omega | (simp only; omega))) <| vl (asv (v := .int _ _) rfl) <| nl <| thn <| ?_
    exact ⟨(i + 1, v', A'), ⟨rfl, rfl, rfl, rfl, trivial⟩, ⟨hi', by rw [List.take_succ_eq_append_getElem hi', List.map_append]; exact ho, hK⟩, by simp only; omega⟩
  · have hi' : i = xs.length := by simp only at hc; omega
    subst hi'
    refine ex <| the <| the <| bkh <| thn <| sq <| rg <| ?_
    refine vl mv <| vl asg <| nl <| thn <| rt <| p1r (a := _) rfl <| ?_
    rw [List.take_length, List.length_map] at ho
    exact ⟨A, ho, hK⟩

theorem specWorldNew_c (hK : K e w G L) (hv : IntS G v xs) : Ret Tryz.prog 22 #[v] w (fun r w' => ∃ G' W wd rs b, r = .tuple #[.agg (wc W).toArray, .bool b] ∧ VLe G G' ∧ WdS G' lc W wd rs ∧ (b = true ↔ NdsOk xs ∧ 3 ≤ xs.length) ∧ wd = (if b then newW xs else wdZ) ∧ K e w' G' L) := by
  have hle := hv.le
  refine enterG2 (args := [v]) Tryz.func22 rfl rfl rfl rfl ?_
  refine sq <| rg <| ?_
  refine al hK Ty.i30 rfl ?_
  intro b2 w hK
  refine vl (asv (v := .bool _) rfl) <| nl <| thn <| sq <| rg <| vl mv <| ?_
  refine cl Tryz.call55 rfl (specRingNew_c hK hv) ?_
  rintro _ w ⟨G1, u, rs, b, rfl, hG1, hR, hb, hrg, hK⟩
  refine vl mv <| vl (ext rfl rfl) <| vl (ext rfl rfl) <| vl asg <| vl (asv (v := .bool _) rfl) <| nl <| thn <| sq <| sq <| rg <| vl (mvv (v := .bool _) rfl) <| vl (ntB rfl) <| nl <| thn <| ?_
  refine cdB rfl (fun h1 => ?_) (fun h1 => ?_)
  · have h1' : b = false := Eq.mp (Bool.not_eq_true' _) h1
    refine sq <| rg <| ?_
    refine vl (bd [] Ty.p30 Ty.i30 rfl trivial rfl) <| ?_
    refine soS hK Ty.i30 0 rfl rfl rfl rfl rfl rfl ?_
    intro w hK
    refine vl (asv (v := .bool _) rfl) <| nl <| thn <| rt <| thr <| pg2r (rvS hK Ty.a30 Ty.s30 0 rfl rfl rfl) (rvT (v := .bool _) rfl) <| ?_
    exact ⟨G1, _, wdZ, [], false, rfl, hG1, WdS.zero, by rw [← hb, h1'], rfl, hK.drop1⟩
  · have h1' : b = true := Eq.mp (Bool.not_eq_false' _) h1
    have hok := hb.1 h1'
    rw [h1'] at hrg
    refine sk <| thn <| sq <| rg <| ?_
    refine vl mv <| vl mv <| ?_
    refine cl Tryz.call56 rfl (l51Leases_c hK (hv.mono hG1) (by have := hok.1.1; omega)) ?_
    rintro l w ⟨A, ho, hK⟩
    obtain ⟨G2, hG2, hl, hK⟩ := K.pubE (c := lc) (xs := xs.map fun i => (i, i, 20)) (fun _ => rfl) hK (by rw [List.length_map]; exact ho)
    refine bs0 hK Tryz.underlying25 Ty.i66 ?_
    intro b17 w hK
    refine cl Tryz.call57 rfl (l41New_c hK) ?_
    rintro _ w ⟨t4, A4, rfl, ho4, hK⟩
    obtain ⟨G3, hG3, ht, hK⟩ := K.pubO (xs := []) hK ho4
    refine bs0 hK Tryz.underlying26 Ty.i3 ?_
    intro b19 w hK
    refine vl (bd [(1, _), (2, _), (3, _), (4, _), (5, _)] Ty.p30 Ty.i30 rfl ⟨⟨rfl, one_cells hR.sl.1.one⟩, ⟨rfl, one_cells hl.1.one⟩, ⟨rfl, rfl⟩, ⟨rfl, rfl⟩, ⟨rfl, rfl⟩, trivial⟩ rfl) <| ?_
    refine soS hK Ty.i30 2 rfl rfl rfl rfl (allc rfl (allc hR.sl.1.one (allc hl.1.one (allc rfl (allc rfl (allc ht.1.one (allc rfl rfl))))))) rfl ?_
    intro w hK
    refine vl (asv (v := .bool _) rfl) <| nl <| thn <| rt <| pg2r (rvS hK Ty.a30 Ty.s30 2 rfl rfl rfl) (rvT (v := .bool _) rfl) <| ?_
    exact ⟨G3, ⟨0, u, l, _, 0, t4, _⟩, newW xs, rs, true, rfl, (hG1.trans hG2).trans hG3, ⟨rfl, hR.mono (hG2.trans hG3), hrg, LeaS.mono hl hG3, SlR.lit0, rfl, ht, SlR.lit0⟩, by simp [hok], rfl, (K.sl hK (by repeat' (first | exact List.Sublist.refl _ | refine List.Sublist.cons _ ?_)))⟩

end
end Go.Proofs.YtjfjnmbgimfmaaaGreat
namespace Go.Proofs.YtjfjnmbgimfmaaaGreat
open Go Go.Ro

section
variable {e w : World} {G : View} {L A : Own} {v u : Value} {xs ys : List Int} {ls ms : List Ls} {rs qs : List Rn} {zs ts : List It} {W W' : Wv} {wd wd' : Wd} {a b k id other : Int} {i j bk o : Nat}

end
end Go.Proofs.YtjfjnmbgimfmaaaGreat
namespace Go.Proofs.YtjfjnmbgimfmaaaGreat
open Go Go.Ro

section
variable {e w : World} {G : View} {L A : Own} {v u t t2 : Value} {xs ys : List Int} {ls ms : List Ls} {rs qs : List Rn} {zs ts : List It} {W W' : Wv} {wd wd' : Wd} {n m k : Int}

/-- what a world measures at most -/
def WdL (wd : Wd) : Prop := wd.ring.length ≤ 1048576 ∧ (∀ x ∈ wd.ring, x.2.2.length ≤ 1048576) ∧ wd.leases.length ≤ 1048576 ∧ wd.items.length ≤ 1048576 ∧ wd.scan.2.length ≤ 1048576 ∧ wd.since.length ≤ 1048576
theorem specWorldOwner_c (hK : K e w G L) (hW : WdS G lc W wd rs) (hzl : wd.items.length ≤ 1048576) :
    Ret Tryz.prog 6 #[.agg (wc W).toArray, .int .i64 k] w (fun r w' => (∃ n, r = .int .i64 n ∧ (¬ WdOk wd → n = -1) ∧ (WdOk wd → Pt k → n = own wd k) ∧ (¬ Pt k → n = -1)) ∧ K e w' G L) := by
  refine enter1 (args := [.agg (wc W).toArray, .int .i64 k]) Tryz.func6 rfl rfl rfl rfl ?_
  refine sq <| rg <| ?_
  refine bx hK rfl rfl ?_
  intro b2 w hK
  refine vl (asv (v := .int _ _) rfl) <| nl <| thn <| sq <| sq <| rg <| vl (lsO hK Ty.a30 Ty.s30 0 rfl rfl rfl) <| ?_
  refine cl Tryz.call16 rfl (specWorldValid_c hK hW hzl) ?_
  rintro _ w ⟨rfl, hK⟩
  refine vl (ntB rfl) <| vl (mvv (v := .bool _) rfl) <| ?_
  refine spl (t := 8) rfl (fun h1 => ?_) (fun h1 => ?_)
  · have h1' := not_dec (Eq.mp (Bool.not_eq_true' _) h1)
    refine gn rfl <| gn rfl <| gn rfl <| vl (pk rfl) <| nl <| thn <| ?_
    refine cdt rfl ?_
    refine sq <| rg <| ?_
    refine vl (asv (v := .int _ _) rfl) <| nl <| thn <| rt <| thr <| p1r (a := .int _ _) rfl <| ?_
    exact ⟨⟨_, rfl, fun _ => rfl, fun h => absurd h h1', fun _ => rfl⟩, hK.drop1⟩
  · have h1' := of_dec (Eq.mp (Bool.not_eq_false' _) h1)
    refine gy rfl <| vl (mvv (v := .int _ _) rfl) <| gy rfl <| ?_
    refine cl Tryz.call17 rfl (l1Point_c (C := fun w => K _ w _ _) hK) ?_
    rintro _ w ⟨rfl, hK⟩
    refine gy rfl <| vl (nt rfl) <| vl (pk rfl) <| nl <| thn <| ?_
    refine cdP rfl (fun h2 => ?_) (fun h2 => ?_)
    · refine sq <| rg <| ?_
      refine vl (asv (v := .int _ _) rfl) <| nl <| thn <| rt <| thr <| p1r (a := .int _ _) rfl <| ?_
      exact ⟨⟨_, rfl, fun _ => rfl, fun _ h => absurd h h2, fun _ => rfl⟩, hK.drop1⟩
    · refine sk <| thn <| sq <| rg <| ?_
      refine vl (lsO hK Ty.a30 Ty.s30 0 rfl rfl rfl) <| vl (mvv (v := .int _ _) rfl) <| ?_
      refine cl Tryz.call18 rfl (l51Owner_c hK hW (by have := h1'.2.2.1.1; omega)) ?_
      rintro _ w ⟨rfl, hK⟩
      refine vl (asv (v := .int _ _) rfl) <| nl <| thn <| rt <| p1r (a := .int _ _) rfl <| ?_
      exact ⟨⟨_, rfl, fun h => absurd h1' h, fun _ _ => rfl, fun h => absurd (Decidable.not_not.1 h2) h⟩, hK.drop1⟩
end
end Go.Proofs.YtjfjnmbgimfmaaaGreat
