/- Contracts of the steps of a scan and of whole scans. Conditions: those that each row states. -/
import Derived.Test.YtemeepjdjaabmaaSk
namespace Go.Proofs.Ytemeepjdjaabmaa
open Go Go.Ro

section
variable {e w : World} {G : View} {L A : Own} {v u t t2 : Value} {xs ys ks ts us : List Int} {ls : List Ls} {n m : Int}

theorem implScanStep_c (hK : K e w G L) (hv : LeaS G v ls) (hk : IntS G u ks) (ht : IntS G t ts) (htl : ts.length ≤ 1000000000) :
    Ret Try.prog 32 #[v, u, .agg #[.int .i64 n, t]] w (fun r w' => ∃ t' A, r = .tuple #[.agg #[.int .i64 (scanF ls ks (n, ts)).1.1, t'], .bool (scanF ls ks (n, ts)).2] ∧
      OS 1 3 t' (scanF ls ks (n, ts)).1.2.length (ints (scanF ls ks (n, ts)).1.2) A ∧ K e w' G (A ++ L)) := by
  refine enterG2 (args := [v, u, .agg #[.int .i64 n, t]]) Try.func32 rfl rfl rfl rfl ?_
  refine sq <| rg <| ?_
  refine bx hK rfl rfl ?_
  intro b5 w hK
  refine al hK Ty.i33 rfl ?_
  intro b6 w hK
  refine vl (asv (v := .bool _) rfl) <| nl <| thn <| sq <| sq <| rg <| vl mv <| ?_
  refine cl Try.call33 rfl (implLeasesValid_c hK (by assumption)) ?_
  rintro _ w ⟨rfl, hK⟩
  refine vl (ntB rfl) <| vl (mvv (v := .bool _) rfl) <| ?_
  refine spl (t := 11) rfl (fun h1 => ?_) (fun h1 => ?_)
  · simp at h1
    have h1' := not_dec h1
    refine gn rfl <| gn rfl <| gn rfl <| vl (pk rfl) <| vl (mvv (v := .bool _) rfl) <| gn rfl <| gn rfl <| gn rfl <| vl (pk rfl) <| nl <| thn <| ?_
    refine cdt rfl ?_
    refine sq <| rg <| ?_
    refine vl (bd [] Ty.p33 Ty.i33 rfl trivial rfl) <| ?_
    refine soS hK Ty.i33 0 rfl rfl rfl rfl rfl rfl ?_
    intro w hK
    refine vl (asv (v := .bool _) rfl) <| nl <| thn <| rt <| thr <| pg2r (rvS hK Ty.a33 Ty.s33 0 rfl rfl rfl) (rvT (v := .bool _) rfl) <| ?_
    rw [scanF_no (fun h => h1' h.1)]
    exact ⟨_, [], rfl, OS.nil _ _, hK.drop1.drop1⟩
  · simp at h1
    have h1' := of_dec h1
    refine gy rfl <| vl mv <| gy rfl <| ?_
    refine cl Try.call65 rfl (ascendingPositions_c hK (by assumption)) ?_
    rintro _ w ⟨rfl, hK⟩
    refine gy rfl <| vl (ntB rfl) <| vl (pk rfl) <| vl (mvv (v := .bool _) rfl) <| ?_
    refine spl (t := 16) rfl (fun h2 => ?_) (fun h2 => ?_)
    · simp at h2
      have h2' := not_dec h2
      refine gn rfl <| gn rfl <| gn rfl <| vl (pk rfl) <| nl <| thn <| ?_
      refine cdt rfl ?_
      refine sq <| rg <| ?_
      refine vl (bd [] Ty.p33 Ty.i33 rfl trivial rfl) <| ?_
      refine soS hK Ty.i33 0 rfl rfl rfl rfl rfl rfl ?_
      intro w hK
      refine vl (asv (v := .bool _) rfl) <| nl <| thn <| rt <| thr <| pg2r (rvS hK Ty.a33 Ty.s33 0 rfl rfl rfl) (rvT (v := .bool _) rfl) <| ?_
      rw [scanF_no (fun h => h2' h.2.1)]
      exact ⟨_, [], rfl, OS.nil _ _, hK.drop1.drop1⟩
    · simp at h2
      have h2' := of_dec h2
      refine gy rfl <| vl (lsO hK Ty.a33 Ty.s33 1 rfl rfl rfl) <| gy rfl <| ?_
      refine cl Try.call23 rfl (implScanValid_c hK (by assumption)) ?_
      rintro _ w ⟨rfl, hK⟩
      refine gy rfl <| vl (ntB rfl) <| vl (pk rfl) <| nl <| thn <| ?_
      refine cdB rfl (fun h3 => ?_) (fun h3 => ?_)
      · simp at h3
        have h3' := not_dec h3
        refine sq <| rg <| ?_
        refine vl (bd [] Ty.p33 Ty.i33 rfl trivial rfl) <| ?_
        refine soS hK Ty.i33 0 rfl rfl rfl rfl rfl rfl ?_
        intro w hK
        refine vl (asv (v := .bool _) rfl) <| nl <| thn <| rt <| thr <| pg2r (rvS hK Ty.a33 Ty.s33 0 rfl rfl rfl) (rvT (v := .bool _) rfl) <| ?_
        rw [scanF_no (fun h => h3' h.2.2)]
        exact ⟨_, [], rfl, OS.nil _ _, hK.drop1.drop1⟩
      · simp at h3
        have h3' := of_dec h3
        refine sk <| thn <| sq <| sq <| rg <| ?_
        refine vl (fa Try.underlying33 rfl Ty.z3 rfl) <| vl (ldO hK Ty.o3 1 rfl rfl rfl) <| vl (eq rfl rfl) <| nl <| thn <| ?_
        refine cdP rfl (fun h4 => ?_) (fun h4 => ?_)
        · refine sq <| rg <| ?_
          refine vl (lsO hK Ty.a33 Ty.s33 1 rfl rfl rfl) <| ?_
          rw [scanF_end ⟨h1', h2', h3'⟩ h4]
          refine cl Try.call70 rfl (copyScan_c hK ht (by first | omega | (simp only; omega))) ?_
          rintro t26 w ⟨t', A, rfl, ho, hK⟩
          replace hK := K.mid (B := [_, _]) hK
          refine soS hK Ty.i33 0 rfl rfl rfl rfl (allc rfl (allc ho.one rfl)) rfl ?_
          intro w hK
          refine vl (asv (v := .bool _) rfl) <| nl <| thn <| rt <| thr <| pg2r (rvS hK Ty.a33 Ty.s33 0 rfl rfl rfl) (rvT (v := .bool _) rfl) <| ?_
          exact ⟨_, A, rfl, ho, hK.drop1.drop1⟩
        · refine sk <| thn <| sq <| rg <| ?_
          refine vl mv <| vl mv <| vl (lsO hK Ty.a33 Ty.s33 1 rfl rfl rfl) <| ?_
          have h5 : n < 64 := by have := h3'.1.2; simp only at this; omega
          rw [scanF_go ⟨h1', h2', h3'⟩ h4]
          refine cl Try.call71 rfl (scanStep_c hK hv hk ht h1' h2' h3' h5) ?_
          rintro t30 w ⟨t', A, rfl, ho, hK⟩
          replace hK := K.mid (B := [_, _]) hK
          refine soS hK Ty.i33 0 rfl rfl rfl rfl (allc rfl (allc ho.one rfl)) rfl ?_
          intro w hK
          refine vl (asv (v := .bool _) rfl) <| nl <| thn <| rt <| pg2r (rvS hK Ty.a33 Ty.s33 0 rfl rfl rfl) (rvT (v := .bool _) rfl) <| ?_
          exact ⟨_, A, rfl, ho, hK.drop1.drop1⟩

theorem specScanStep_c (hK : K e w G L) (hv : LeaS G v ls) (hk : IntS G u ks) (ht : IntS G t ts) (htl : ts.length ≤ 1000000000) :
    Ret Try.prog 48 #[v, u, .agg #[.int .i64 n, t]] w (fun r w' => ∃ t' A, r = .tuple #[.agg #[.int .i64 (scanF ls ks (n, ts)).1.1, t'], .bool (scanF ls ks (n, ts)).2] ∧
      OS 1 3 t' (scanF ls ks (n, ts)).1.2.length (ints (scanF ls ks (n, ts)).1.2) A ∧ K e w' G (A ++ L)) := by
  refine enterG2 (args := [v, u, .agg #[.int .i64 n, t]]) Try.func48 rfl rfl rfl rfl ?_
  refine sq <| rg <| ?_
  refine bx hK rfl rfl ?_
  intro b5 w hK
  refine al hK Ty.i33 rfl ?_
  intro b6 w hK
  refine vl (asv (v := .bool _) rfl) <| nl <| thn <| sq <| sq <| rg <| vl mv <| ?_
  refine cl Try.call50 rfl (specLeasesValid_c hK (by assumption)) ?_
  rintro _ w ⟨rfl, hK⟩
  refine vl (ntB rfl) <| vl (mvv (v := .bool _) rfl) <| ?_
  refine spl (t := 11) rfl (fun h1 => ?_) (fun h1 => ?_)
  · simp at h1
    have h1' := not_dec h1
    refine gn rfl <| gn rfl <| gn rfl <| vl (pk rfl) <| vl (mvv (v := .bool _) rfl) <| gn rfl <| gn rfl <| gn rfl <| vl (pk rfl) <| nl <| thn <| ?_
    refine cdt rfl ?_
    refine sq <| rg <| ?_
    refine vl (bd [] Ty.p33 Ty.i33 rfl trivial rfl) <| ?_
    refine soS hK Ty.i33 0 rfl rfl rfl rfl rfl rfl ?_
    intro w hK
    refine vl (asv (v := .bool _) rfl) <| nl <| thn <| rt <| thr <| pg2r (rvS hK Ty.a33 Ty.s33 0 rfl rfl rfl) (rvT (v := .bool _) rfl) <| ?_
    rw [scanF_no (fun h => h1' h.1)]
    exact ⟨_, [], rfl, OS.nil _ _, hK.drop1.drop1⟩
  · simp at h1
    have h1' := of_dec h1
    refine gy rfl <| vl mv <| gy rfl <| ?_
    refine cl Try.call67 rfl (l1Nodes_c hK (by assumption)) ?_
    rintro _ w ⟨rfl, hK⟩
    refine gy rfl <| vl (ntB rfl) <| vl (pk rfl) <| vl (mvv (v := .bool _) rfl) <| ?_
    refine spl (t := 16) rfl (fun h2 => ?_) (fun h2 => ?_)
    · simp at h2
      have h2' := not_dec h2
      refine gn rfl <| gn rfl <| gn rfl <| vl (pk rfl) <| nl <| thn <| ?_
      refine cdt rfl ?_
      refine sq <| rg <| ?_
      refine vl (bd [] Ty.p33 Ty.i33 rfl trivial rfl) <| ?_
      refine soS hK Ty.i33 0 rfl rfl rfl rfl rfl rfl ?_
      intro w hK
      refine vl (asv (v := .bool _) rfl) <| nl <| thn <| rt <| thr <| pg2r (rvS hK Ty.a33 Ty.s33 0 rfl rfl rfl) (rvT (v := .bool _) rfl) <| ?_
      rw [scanF_no (fun h => h2' h.2.1)]
      exact ⟨_, [], rfl, OS.nil _ _, hK.drop1.drop1⟩
    · simp at h2
      have h2' := of_dec h2
      refine gy rfl <| vl (lsO hK Ty.a33 Ty.s33 1 rfl rfl rfl) <| gy rfl <| ?_
      refine cl Try.call24 rfl (specScanValid_c hK (by assumption)) ?_
      rintro _ w ⟨rfl, hK⟩
      refine gy rfl <| vl (ntB rfl) <| vl (pk rfl) <| nl <| thn <| ?_
      refine cdB rfl (fun h3 => ?_) (fun h3 => ?_)
      · simp at h3
        have h3' := not_dec h3
        refine sq <| rg <| ?_
        refine vl (bd [] Ty.p33 Ty.i33 rfl trivial rfl) <| ?_
        refine soS hK Ty.i33 0 rfl rfl rfl rfl rfl rfl ?_
        intro w hK
        refine vl (asv (v := .bool _) rfl) <| nl <| thn <| rt <| thr <| pg2r (rvS hK Ty.a33 Ty.s33 0 rfl rfl rfl) (rvT (v := .bool _) rfl) <| ?_
        rw [scanF_no (fun h => h3' h.2.2)]
        exact ⟨_, [], rfl, OS.nil _ _, hK.drop1.drop1⟩
      · simp at h3
        have h3' := of_dec h3
        refine sk <| thn <| sq <| sq <| rg <| ?_
        refine vl (fa Try.underlying33 rfl Ty.z3 rfl) <| vl (ldO hK Ty.o3 1 rfl rfl rfl) <| vl (eq rfl rfl) <| nl <| thn <| ?_
        refine cdP rfl (fun h4 => ?_) (fun h4 => ?_)
        · refine sq <| ?_
          rw [scanF_end ⟨h1', h2', h3'⟩ h4]
          refine rgs (fun w => K e w G ((b5, row [.int .i64 n, t] 33) :: L)) (fun w => K _ w _ _) [false, false, false, false, false, false, false, false, false] 9 Ty.mixed rfl rfl (hK.drawn _) ?_
          intro w hK
          have hS : (fun w => K e w G ((b5, row [.int .i64 n, t] 33) :: L)) w := K.sl hK (by repeat' (first | exact List.Sublist.refl _ | refine List.Sublist.cons_cons _ ?_ | refine List.Sublist.cons _ ?_ | refine List.Sublist.trans ?_ (List.sublist_append_right _ _)))
          refine xt (i := 0) (l' := [true, false, false, false, false, false, false, false, false]) rfl (by kernel_rfl) rfl rfl (fun w hK => (fa Try.underlying33 rfl Ty.z3 rfl)) hS <| ?_; refine xt (i := 1) (l' := [true, true, false, false, false, false, false, false, false]) rfl (by kernel_rfl) rfl rfl (fun w hK => (ldO hK Ty.o3 0 rfl rfl rfl)) hS <| ?_; refine xt (i := 3) (l' := [true, true, false, true, false, false, false, false, false]) rfl (by kernel_rfl) rfl rfl (fun w hK => (fa Try.underlying33 rfl Ty.z24 rfl)) hS <| ?_; refine xt (i := 4) (l' := [true, true, false, true, true, false, false, false, false]) rfl (by kernel_rfl) rfl rfl (fun w hK => (ldO hK Ty.o24 0 rfl rfl rfl)) hS <| ?_
          refine xe (i := 2) (l' := [true, true, true, true, true, false, false, false, false]) (by kernel_rfl) rfl rfl ?_
          refine bs0 hK Try.underlying24 Ty.i3 ?_
          intro b27 w hK
          replace hS : (fun w => K e w G ((b5, row [.int .i64 n, t] 33) :: L)) w := K.sl hK (by repeat' (first | exact List.Sublist.refl _ | refine List.Sublist.cons_cons _ ?_ | refine List.Sublist.cons _ ?_ | refine List.Sublist.trans ?_ (List.sublist_append_right _ _)))
          refine xn (fun w => K e w G ((b5, row [.int .i64 n, t] 33) :: L)) hS (fun _ h => h) ?_
          refine xe (i := 5) (l' := [true, true, true, true, true, true, false, false, false]) (by kernel_rfl) rfl rfl ?_
          refine apI (xs := []) (ys := ts) (A := [(b27, _)]) hK Try.underlying24 Ty.i3 rfl rfl OS.none rfl ht (by simp; omega) fun v30 A w ho hK => ?_
          replace hK := K.mid (B := [_, _]) hK
          replace hS : (fun w => K e w G ((b5, row [.int .i64 n, t] 33) :: L)) w := K.sl hK (by repeat' (first | exact List.Sublist.refl _ | refine List.Sublist.cons_cons _ ?_ | refine List.Sublist.cons _ ?_ | refine List.Sublist.trans ?_ (List.sublist_append_right _ _)))
          refine xn (fun w => K e w G ((b5, row [.int .i64 n, t] 33) :: L)) hS (fun _ h => h) ?_
          refine xe (i := 6) (l' := [true, true, true, true, true, true, true, false, false]) (by kernel_rfl) rfl rfl ?_
          refine vl (bd [(0, _), (1, _)] Ty.p33 Ty.i33 rfl ⟨⟨rfl, rfl⟩, ⟨rfl, one_cells ho.one⟩, trivial⟩ rfl) <| ?_
          replace hS : (fun w => K e w G ((b5, row [.int .i64 n, t] 33) :: L)) w := K.sl hK (by repeat' (first | exact List.Sublist.refl _ | refine List.Sublist.cons_cons _ ?_ | refine List.Sublist.cons _ ?_ | refine List.Sublist.trans ?_ (List.sublist_append_right _ _)))
          refine xn (fun w => K e w G ((b5, row [.int .i64 n, t] 33) :: L)) hS (fun _ h => h) ?_
          refine xe (i := 7) (l' := [true, true, true, true, true, true, true, true, false]) (by kernel_rfl) rfl rfl ?_
          refine soS hK Ty.i33 0 rfl rfl rfl rfl (allc rfl (allc ho.one rfl)) rfl ?_
          intro w hK
          replace hS : (fun w => K e w G ((b5, row [.int .i64 n, t] 33) :: L)) w := K.sl hK (by repeat' (first | exact List.Sublist.refl _ | refine List.Sublist.cons_cons _ ?_ | refine List.Sublist.cons _ ?_ | refine List.Sublist.trans ?_ (List.sublist_append_right _ _)))
          refine xn (fun w => K e w G ((b5, row [.int .i64 n, t] 33) :: L)) hS (fun _ h => h) ?_
          refine xt (i := 8) (l' := [true, true, true, true, true, true, true, true, true]) rfl (by kernel_rfl) rfl rfl (fun w hK => (asv (v := .bool _) rfl)) hS <| ?_; refine xd (by kernel_rfl) <| thn <| rt <| thr <| pg2r (rvS hK Ty.a33 Ty.s33 0 rfl rfl rfl) (rvT (v := .bool _) rfl) <| ?_
          exact ⟨_, A, rfl, ho, hK.drop1.drop1⟩
        · refine sk <| thn <| sq <| rg <| ?_
          refine vl mv <| vl mv <| vl (lsO hK Ty.a33 Ty.s33 1 rfl rfl rfl) <| ?_
          have h5 : n < 64 := by have := h3'.1.2; simp only at this; omega
          rw [scanF_go ⟨h1', h2', h3'⟩ h4]
          refine cl Try.call76 rfl (l41Step_c hK hv hk ht h1' h2' h3' h5) ?_
          rintro t35 w ⟨t', A, rfl, ho, hK⟩
          replace hK := K.mid (B := [_, _]) hK
          refine soS hK Ty.i33 0 rfl rfl rfl rfl (allc rfl (allc ho.one rfl)) rfl ?_
          intro w hK
          refine vl (asv (v := .bool _) rfl) <| nl <| thn <| rt <| pg2r (rvS hK Ty.a33 Ty.s33 0 rfl rfl rfl) (rvT (v := .bool _) rfl) <| ?_
          exact ⟨_, A, rfl, ho, hK.drop1.drop1⟩

theorem implScanAll_c (hK : K e w G L) (hv : LeaS G v ls) (hk : IntS G u ks) :
    Ret Try.prog 36 #[v, u] w (fun r w' => ∃ t' A zs m, r = .tuple #[t', .int .i64 m] ∧ AllF ls ks zs m ∧ OS 1 3 t' zs.length (ints zs) A ∧ K e w' G (A ++ L)) := by
  refine enter2 (args := [v, u]) Try.func36 rfl rfl rfl rfl ?_
  refine sq <| rg <| ?_
  refine vl asg <| vl (asv (v := .int _ _) rfl) <| nl <| thn <| sq <| sq <| rg <| vl mv <| ?_
  refine cl Try.call33 rfl (implLeasesValid_c hK (by assumption)) ?_
  rintro _ w ⟨rfl, hK⟩
  refine vl (ntB rfl) <| vl (mvv (v := .bool _) rfl) <| ?_
  refine spl (t := 11) rfl (fun h1 => ?_) (fun h1 => ?_)
  · simp at h1
    have h1' := not_dec h1
    refine gn rfl <| gn rfl <| gn rfl <| vl (pk rfl) <| nl <| thn <| ?_
    refine cdt rfl ?_
    refine sq <| rg <| ?_
    refine vl asg <| vl (asv (v := .int _ _) rfl) <| nl <| thn <| rt <| thr <| p2r (a := _) (b := .int _ _) rfl rfl <| ?_
    exact ⟨_, [], [], _, rfl, .inr ⟨fun h => h1' h.1, rfl, rfl⟩, OS.nil _ _, hK⟩
  · simp at h1
    have h1' := of_dec h1
    refine gy rfl <| vl mv <| gy rfl <| ?_
    refine cl Try.call65 rfl (ascendingPositions_c hK (by assumption)) ?_
    rintro _ w ⟨rfl, hK⟩
    refine gy rfl <| vl (ntB rfl) <| vl (pk rfl) <| nl <| thn <| ?_
    refine cdB rfl (fun h2 => ?_) (fun h2 => ?_)
    · simp at h2
      have h2' := not_dec h2
      refine sq <| rg <| ?_
      refine vl asg <| vl (asv (v := .int _ _) rfl) <| nl <| thn <| rt <| thr <| p2r (a := _) (b := .int _ _) rfl rfl <| ?_
      exact ⟨_, [], [], _, rfl, .inr ⟨fun h => h2' h.2, rfl, rfl⟩, OS.nil _ _, hK⟩
    · simp at h2
      have h2' := of_dec h2
      refine sk <| thn <| sq <| rg <| ?_
      refine al hK Ty.i33 rfl ?_
      intro b6 w hK
      refine nl <| thn <| sq <| rg <| vl (asv (v := .int _ _) rfl) <| nl <| thn <| sq <| bk <| ?_
      refine lp (σ := Nat × Value × Own) (fun s => [(0, v), (1, u), (6, .pointer (some ⟨b6, 0, none⟩)), (7, .int .i64 (s.1 : Int))]) (fun s w => (∀ j, j < s.1 → (itr ls ks j).1 < 64) ∧ OS 1 3 s.2.1 (itr ls ks s.1).2.length (ints (itr ls ks s.1).2) s.2.2 ∧ K e w G ((b6, row [.int .i64 (itr ls ks s.1).1, s.2.1] 33) :: (s.2.2 ++ L))) (fun s => 64 - s.1) (0, .slice none 0 0, []) ⟨rfl, rfl, rfl, rfl, trivial⟩ ⟨fun j h => absurd h (by simp), OS.nil _ _, hK⟩ ?_
      rintro ⟨N, t, A⟩ g w ⟨hj, ho, hK⟩
      simp only at hj ho hK
      obtain ⟨g1, g2, g3, _⟩ := itr_ok h1' h2' N hj
      have g4 := g1.1
      refine sq <| sq <| rg <| ?_
      refine vl (fa Try.underlying33 rfl Ty.z3 rfl) <| vl (ldO hK Ty.o3 0 rfl rfl rfl) <| vl (lt rfl rfl) <| nl <| thn <| ?_
      refine cdP rfl (fun hc => ?_) (fun hc => ?_)
      · try simp only at hc
        refine sk <| thn <| sq <| bk <| rg <| ?_
        refine vl mv <| vl mv <| vl (lsO hK Ty.a33 Ty.s33 0 rfl rfl rfl) <| ?_
        have hKA := K.mid1 hK
        have hle := hKA.addV_le
        refine cl Try.call71 rfl (scanStep_c (ts := (itr ls ks N).2) (n := (itr ls ks N).1) hKA.pub (hv.mono hle) (hk.mono hle) ho.ints h1' h2' g1 hc) ?_
        rintro t24 w ⟨t', A', rfl, ho, hK⟩
        replace hK := (K.mid (B := [_]) hK).vle hle
        have hN : N < 64 := by omega
        refine soS hK Ty.i33 0 rfl rfl rfl rfl (allc rfl (allc ho.one rfl)) rfl ?_
        intro w hK
        refine nl <| bkn <| thn <| rg <| vl (mvv (v := .int _ _) rfl) <| vl (ad rfl rfl (by first | omega | (simp only; omega)) (by first | omega | (simp only; omega))) <| vl (asv (v := .int _ _) rfl) <| nl <| thn <| ?_
        exact ⟨(N + 1, t', A'), ⟨rfl, rfl, rfl, rfl, trivial⟩, ⟨fun j h => by
          rcases Nat.lt_or_ge j N with h' | h'
          · exact hj j h'
          · obtain rfl : j = N := by simp only at h; omega
            exact hc, ho, hK⟩, by simp only; omega⟩
      · try simp only at hc
        refine ex <| the <| the <| bkh <| thn <| sq <| rg <| ?_
        refine vl (fa Try.underlying33 rfl Ty.z24 rfl) <| vl (ldO hK Ty.o24 0 rfl rfl rfl) <| vl (mvv (v := .int _ _) rfl) <| vl asg <| vl (asv (v := .int _ _) rfl) <| nl <| thn <| rt <| p2r (a := _) (b := .int _ _) rfl rfl <| ?_
        have hW : Whole ls ks N := ⟨by omega, hj⟩
        rw [(hW.told h1' h2').1] at ho
        exact ⟨t, A, ks, _, rfl, .inl ⟨h1', h2', rfl, N, hW, rfl⟩, ho, hK.drop1⟩

theorem specScanAll_c (hK : K e w G L) (hv : LeaS G v ls) (hk : IntS G u ks) :
    Ret Try.prog 37 #[v, u] w (fun r w' => ∃ t' A zs m, r = .tuple #[t', .int .i64 m] ∧ AllF ls ks zs m ∧ OS 1 3 t' zs.length (ints zs) A ∧ K e w' G (A ++ L)) := by
  refine enter2 (args := [v, u]) Try.func37 rfl rfl rfl rfl ?_
  refine sq <| rg <| ?_
  refine vl asg <| vl (asv (v := .int _ _) rfl) <| nl <| thn <| sq <| sq <| rg <| vl mv <| ?_
  refine cl Try.call50 rfl (specLeasesValid_c hK (by assumption)) ?_
  rintro _ w ⟨rfl, hK⟩
  refine vl (ntB rfl) <| vl (mvv (v := .bool _) rfl) <| ?_
  refine spl (t := 11) rfl (fun h1 => ?_) (fun h1 => ?_)
  · simp at h1
    have h1' := not_dec h1
    refine gn rfl <| gn rfl <| gn rfl <| vl (pk rfl) <| nl <| thn <| ?_
    refine cdt rfl ?_
    refine sq <| rg <| ?_
    refine bs0 hK Try.underlying24 Ty.i3 ?_
    intro b16 w hK
    refine vl asg <| vl (asv (v := .int _ _) rfl) <| nl <| thn <| rt <| thr <| p2r (a := _) (b := .int _ _) rfl rfl <| ?_
    exact ⟨_, [_], [], _, rfl, .inr ⟨fun h => h1' h.1, rfl, rfl⟩, OS.none, hK⟩
  · simp at h1
    have h1' := of_dec h1
    refine gy rfl <| vl mv <| gy rfl <| ?_
    refine cl Try.call67 rfl (l1Nodes_c hK (by assumption)) ?_
    rintro _ w ⟨rfl, hK⟩
    refine gy rfl <| vl (ntB rfl) <| vl (pk rfl) <| nl <| thn <| ?_
    refine cdB rfl (fun h2 => ?_) (fun h2 => ?_)
    · simp at h2
      have h2' := not_dec h2
      refine sq <| rg <| ?_
      refine bs0 hK Try.underlying24 Ty.i3 ?_
      intro b16 w hK
      refine vl asg <| vl (asv (v := .int _ _) rfl) <| nl <| thn <| rt <| thr <| p2r (a := _) (b := .int _ _) rfl rfl <| ?_
      exact ⟨_, [_], [], _, rfl, .inr ⟨fun h => h2' h.2, rfl, rfl⟩, OS.none, hK⟩
    · simp at h2
      have h2' := of_dec h2
      refine sk <| thn <| sq <| rg <| ?_
      refine cl Try.call75 rfl (l41New_c hK) ?_
      rintro t17 w ⟨t0, A0, rfl, ho, hK⟩
      refine al hK Ty.i33 rfl ?_
      intro b6 w hK
      refine soS hK Ty.i33 0 rfl rfl rfl rfl (allc rfl (allc ho.one rfl)) rfl ?_
      intro w hK
      refine nl <| thn <| sq <| rg <| vl (asv (v := .int _ _) rfl) <| nl <| thn <| sq <| bk <| ?_
      refine lp (σ := Nat × Value × Own) (fun s => [(0, v), (1, u), (6, .pointer (some ⟨b6, 0, none⟩)), (7, .int .i64 (s.1 : Int))]) (fun s w => (∀ j, j < s.1 → (itr ls ks j).1 < 64) ∧ OS 1 3 s.2.1 (itr ls ks s.1).2.length (ints (itr ls ks s.1).2) s.2.2 ∧ K e w G ((b6, row [.int .i64 (itr ls ks s.1).1, s.2.1] 33) :: (s.2.2 ++ L))) (fun s => 64 - s.1) (0, t0, A0) ⟨rfl, rfl, rfl, rfl, trivial⟩ ⟨fun j h => absurd h (by simp), ho, hK⟩ ?_
      rintro ⟨N, t, A⟩ g w ⟨hj, ho, hK⟩
      simp only at hj ho hK
      obtain ⟨g1, g2, g3, _⟩ := itr_ok h1' h2' N hj
      have g4 := g1.1
      refine sq <| sq <| rg <| ?_
      refine vl (fa Try.underlying33 rfl Ty.z3 rfl) <| vl (ldO hK Ty.o3 0 rfl rfl rfl) <| vl (lt rfl rfl) <| nl <| thn <| ?_
      refine cdP rfl (fun hc => ?_) (fun hc => ?_)
      · try simp only at hc
        refine sk <| thn <| bk <| sq <| rg <| ?_
        refine vl mv <| vl mv <| vl (lsO hK Ty.a33 Ty.s33 0 rfl rfl rfl) <| ?_
        have hKA := K.mid1 hK
        have hle := hKA.addV_le
        refine cl Try.call76 rfl (l41Step_c (ts := (itr ls ks N).2) (n := (itr ls ks N).1) hKA.pub (hv.mono hle) (hk.mono hle) ho.ints h1' h2' g1 hc) ?_
        rintro t24 w ⟨t', A', rfl, ho, hK⟩
        replace hK := (K.mid (B := [_]) hK).vle hle
        have hN : N < 64 := by omega
        refine soS hK Ty.i33 0 rfl rfl rfl rfl (allc rfl (allc ho.one rfl)) rfl ?_
        intro w hK
        refine nl <| thn <| rg <| vl (mvv (v := .int _ _) rfl) <| vl (ad rfl rfl (by first | omega | (simp only; omega)) (by first | omega | (simp only; omega))) <| vl (asv (v := .int _ _) rfl) <| nl <| bkn <| thn <| ?_
        exact ⟨(N + 1, t', A'), ⟨rfl, rfl, rfl, rfl, trivial⟩, ⟨fun j h => by
          rcases Nat.lt_or_ge j N with h' | h'
          · exact hj j h'
          · obtain rfl : j = N := by simp only at h; omega
            exact hc, ho, hK⟩, by simp only; omega⟩
      · try simp only at hc
        refine ex <| the <| the <| bkh <| thn <| sq <| rg <| ?_
        refine vl (fa Try.underlying33 rfl Ty.z24 rfl) <| vl (ldO hK Ty.o24 0 rfl rfl rfl) <| vl (mvv (v := .int _ _) rfl) <| vl asg <| vl (asv (v := .int _ _) rfl) <| nl <| thn <| rt <| p2r (a := _) (b := .int _ _) rfl rfl <| ?_
        have hW : Whole ls ks N := ⟨by omega, hj⟩
        rw [(hW.told h1' h2').1] at ho
        exact ⟨t, A, ks, _, rfl, .inl ⟨h1', h2', rfl, N, hW, rfl⟩, ho, hK.drop1⟩

theorem sameScan_c (hK : K e w G L) (ht : IntS G t ts) (hu : IntS G t2 us) :
    Ret Try.prog 34 #[.agg #[.int .i64 n, t], .agg #[.int .i64 m, t2]] w (fun r w' => r = .bool (decide (n = m ∧ ts = us)) ∧ K e w' G L) := by
  refine enter1 (args := [.agg #[.int .i64 n, t], .agg #[.int .i64 m, t2]]) Try.func34 rfl rfl rfl rfl ?_
  refine sq <| rg <| ?_
  refine bx hK rfl rfl ?_
  intro b2 w hK
  refine bx hK rfl rfl ?_
  intro b3 w hK
  refine vl (asv (v := .bool _) rfl) <| nl <| thn <| sq <| rg <| vl (fa Try.underlying33 rfl Ty.z3 rfl) <| vl (ldO hK Ty.o3 1 rfl rfl rfl) <| vl (fa Try.underlying33 rfl Ty.z3 rfl) <| vl (ldO hK Ty.o3 0 rfl rfl rfl) <| vl (eq rfl rfl) <| vl (mvv (v := .bool _) rfl) <| ?_
  refine splP (t := 10) rfl (fun h => ?_) (fun h => ?_)
  · refine gy rfl <| vl (fa Try.underlying33 rfl Ty.z24 rfl) <| gy rfl <| vl (ldO hK Ty.o24 1 rfl rfl rfl) <| gy rfl <| vl (fa Try.underlying33 rfl Ty.z24 rfl) <| gy rfl <| vl (ldO hK Ty.o24 0 rfl rfl rfl) <| gy rfl <| ?_
    refine cl Try.call38 rfl (sameInts_c hK (by assumption) (by assumption)) ?_
    rintro _ w ⟨rfl, hK⟩
    refine vl (pk rfl) <| vl (asv (v := .bool _) rfl) <| nl <| thn <| rt <| p1r (a := .bool _) rfl <| ?_
    exact ⟨by simp [h], hK.drop1.drop1⟩
  · refine gn rfl <| gn rfl <| gn rfl <| gn rfl <| gn rfl <| vl (pk rfl) <| vl (asv (v := .bool _) rfl) <| nl <| thn <| rt <| p1r (a := .bool _) rfl <| ?_
    exact ⟨by simp [h], hK.drop1.drop1⟩
theorem eqScan_c (hK : K e w G L) (ht : IntS G t ts) (hu : IntS G t2 us) :
    Ret Try.prog 27 #[.agg #[.int .i64 n, t], .agg #[.int .i64 m, t2]] w (fun r w' => r = .bool (decide (n = m ∧ ts = us)) ∧ K e w' G L) := by
  refine enter1 (args := [.agg #[.int .i64 n, t], .agg #[.int .i64 m, t2]]) Try.func27 rfl rfl rfl rfl ?_
  refine sq <| rg <| ?_
  refine bx hK rfl rfl ?_
  intro b2 w hK
  refine bx hK rfl rfl ?_
  intro b3 w hK
  refine vl (asv (v := .bool _) rfl) <| nl <| thn <| sq <| sq <| rg <| vl (fa Try.underlying33 rfl Ty.z3 rfl) <| vl (ldO hK Ty.o3 1 rfl rfl rfl) <| vl (fa Try.underlying33 rfl Ty.z3 rfl) <| vl (ldO hK Ty.o3 0 rfl rfl rfl) <| vl (ne rfl rfl) <| nl <| thn <| ?_
  refine cdP rfl (fun h => ?_) (fun h => ?_)
  · refine sq <| rg <| ?_
    refine vl (asv (v := .bool _) rfl) <| nl <| thn <| rt <| thr <| p1r (a := .bool _) rfl <| ?_
    exact ⟨by simp [h], hK.drop1.drop1⟩
  · refine sk <| thn <| sq <| sq <| rg <| ?_
    refine vl (fa Try.underlying33 rfl Ty.z24 rfl) <| vl (ldO hK Ty.o24 1 rfl rfl rfl) <| vl (fa Try.underlying33 rfl Ty.z24 rfl) <| vl (ldO hK Ty.o24 0 rfl rfl rfl) <| ?_
    refine cl Try.call42 rfl (eqIntS_c hK (by assumption) (by assumption)) ?_
    rintro _ w ⟨rfl, hK⟩
    refine vl (nt rfl) <| nl <| thn <| ?_
    refine cdP rfl (fun h2 => ?_) (fun h2 => ?_)
    · refine sq <| rg <| ?_
      refine vl (asv (v := .bool _) rfl) <| nl <| thn <| rt <| thr <| p1r (a := .bool _) rfl <| ?_
      exact ⟨by simp [h2], hK.drop1.drop1⟩
    · refine sk <| thn <| sq <| rg <| ?_
      refine vl (asv (v := .bool _) rfl) <| nl <| thn <| rt <| p1r (a := .bool _) rfl <| ?_
      exact ⟨by simp at h h2; simp [h, h2], hK.drop1.drop1⟩
end
end Go.Proofs.Ytemeepjdjaabmaa
