/- Contracts of the specification's renewal of leases. Conditions: those that each row states. -/
import Derived.Test.YtjfjnmbgimfmaaaGreatLe
namespace Go.Proofs.YtjfjnmbgimfmaaaGreat
open Go Go.Ro

section
variable {e w : World} {G : View} {L A : Own} {v u : Value} {ls ms : List Ls} {ow now un : Int} {i j : Nat} {x : Ls}

theorem specLeaseRenew_c (hK : K e w G L) (hv : LeaS G v ls) : Ret Tryz.prog 78 #[v, .int .i64 ow, .int .i64 now, .int .i64 un] w (fun r w' => ∃ G' u n, VLe G G' ∧ r = .tuple #[u, .int .i64 n] ∧ (¬ (LsOk ls ∧ Pt ow ∧ Tm now ∧ Tm un) → n = -1) ∧ ((LsOk ls ∧ Pt ow ∧ Tm now ∧ Tm un) → n = (renewN ls ow now un : Int) ∧ LeaS G' u (renewL ls ow now un)) ∧ K e w' G' L) := by
  refine enter2 (args := [v, .int .i64 ow, .int .i64 now, .int .i64 un]) Tryz.func78 rfl rfl rfl rfl ?_
  refine sq <| rg <| ?_
  refine vl asg <| vl (asv (v := .int _ _) rfl) <| nl <| thn <| sq <| sq <| rg <| vl mv <| ?_
  refine cl Tryz.call43 rfl (specLeasesValid_c hK (by assumption)) ?_
  rintro _ w ⟨rfl, hK⟩
  refine vl (ntB rfl) <| vl (mvv (v := .bool _) rfl) <| ?_
  refine spl (t := 16) rfl (fun h1 => ?_) (fun h1 => ?_)
  · have h1' := not_dec (Eq.mp (Bool.not_eq_true' _) h1)
    refine gn rfl <| gn rfl <| gn rfl <| vl (pk rfl) <| vl (mvv (v := .bool _) rfl) <| gn rfl <| gn rfl <| gn rfl <| vl (pk rfl) <| vl (mvv (v := .bool _) rfl) <| gn rfl <| gn rfl <| gn rfl <| vl (pk rfl) <| nl <| thn <| ?_
    refine cdt rfl ?_
    refine sq <| rg <| ?_
    refine bs0 hK Tryz.underlying24 Ty.i35 ?_
    intro b31 w hK
    refine vl asg <| vl (asv (v := .int _ _) rfl) <| nl <| thn <| rt <| thr <| p2r (a := _) (b := .int _ _) rfl rfl <| ?_
    exact ⟨G, _, _, VLe.refl _, rfl, fun _ => rfl, fun h => absurd h.1 h1', hK.drop1⟩
  · have h1' := of_dec (Eq.mp (Bool.not_eq_false' _) h1)
    have hlen := h1'.1.2
    refine gy rfl <| vl (mvv (v := .int _ _) rfl) <| gy rfl <| ?_
    refine cl Tryz.call17 rfl (l1Point_c (C := fun w => K _ w _ _) hK) ?_
    rintro _ w ⟨rfl, hK⟩
    refine gy rfl <| vl (nt rfl) <| vl (pk rfl) <| vl (mvv (v := .bool _) rfl) <| ?_
    refine splP (t := 21) rfl (fun h2 => ?_) (fun h2 => ?_)
    · refine gn rfl <| gn rfl <| gn rfl <| vl (pk rfl) <| vl (mvv (v := .bool _) rfl) <| gn rfl <| gn rfl <| gn rfl <| vl (pk rfl) <| nl <| thn <| ?_
      refine cdt rfl ?_
      refine sq <| rg <| ?_
      refine bs0 hK Tryz.underlying24 Ty.i35 ?_
      intro b31 w hK
      refine vl asg <| vl (asv (v := .int _ _) rfl) <| nl <| thn <| rt <| thr <| p2r (a := _) (b := .int _ _) rfl rfl <| ?_
      exact ⟨G, _, _, VLe.refl _, rfl, fun _ => rfl, fun h => absurd h.2.1 h2, hK.drop1⟩
    · refine gy rfl <| vl (mvv (v := .int _ _) rfl) <| gy rfl <| ?_
      refine cl Tryz.call41 rfl (l12Time_c (C := fun w => K _ w _ _) hK) ?_
      rintro _ w ⟨rfl, hK⟩
      refine gy rfl <| vl (nt rfl) <| vl (pk rfl) <| vl (mvv (v := .bool _) rfl) <| ?_
      refine splP (t := 26) rfl (fun h3 => ?_) (fun h3 => ?_)
      · refine gn rfl <| gn rfl <| gn rfl <| vl (pk rfl) <| nl <| thn <| ?_
        refine cdt rfl ?_
        refine sq <| rg <| ?_
        refine bs0 hK Tryz.underlying24 Ty.i35 ?_
        intro b31 w hK
        refine vl asg <| vl (asv (v := .int _ _) rfl) <| nl <| thn <| rt <| thr <| p2r (a := _) (b := .int _ _) rfl rfl <| ?_
        exact ⟨G, _, _, VLe.refl _, rfl, fun _ => rfl, fun h => absurd h.2.2.1 h3, hK.drop1⟩
      · refine gy rfl <| vl (mvv (v := .int _ _) rfl) <| gy rfl <| ?_
        refine cl Tryz.call41 rfl (l12Time_c (C := fun w => K _ w _ _) hK) ?_
        rintro _ w ⟨rfl, hK⟩
        refine gy rfl <| vl (nt rfl) <| vl (pk rfl) <| nl <| thn <| ?_
        refine cdP rfl (fun h4 => ?_) (fun h4 => ?_)
        · refine sq <| rg <| ?_
          refine bs0 hK Tryz.underlying24 Ty.i35 ?_
          intro b31 w hK
          refine vl asg <| vl (asv (v := .int _ _) rfl) <| nl <| thn <| rt <| thr <| p2r (a := _) (b := .int _ _) rfl rfl <| ?_
          exact ⟨G, _, _, VLe.refl _, rfl, fun _ => rfl, fun h => absurd h.2.2.2 h4, hK.drop1⟩
        · have hok : LsOk ls ∧ Pt ow ∧ Tm now ∧ Tm un := ⟨h1', Decidable.not_not.1 h2, Decidable.not_not.1 h3, Decidable.not_not.1 h4⟩
          refine sk <| thn <| sq <| rg <| ?_
          refine bs0 hK Tryz.underlying24 Ty.i35 ?_
          intro b32 w hK
          refine vl mv <| ?_
          refine apE (A := [(b32, row [] 35)]) (xs := []) (c := lc) (fun _ => rfl) rfl (fun _ => rfl) hK Tryz.underlying24 Ty.i35 rfl rfl rfl OS.none rfl hv (by simp; omega) fun v' A' w ho hK => ?_
          simp only [List.nil_append] at ho
          refine vl asg <| nl <| thn <| sq <| rg <| vl (asv (v := .int _ _) rfl) <| nl <| thn <| sq <| sq <| rg <| vl (asv (v := .int _ _) rfl) <| nl <| thn <| bk <| ?_
          refine lp (σ := Nat × Own) (fun s => [(1, .int .i64 ow), (2, .int .i64 now), (3, .int .i64 un), (10, v'), (11, .int .i64 ((ls.take s.1).countP (rnw ow now un) : Int)), (12, .int .i64 (s.1 : Int))]) (fun s w => s.1 ≤ ls.length ∧ OS 3 35 v' ls.length (((ls.take s.1).map (rn1 ow now un) ++ ls.drop s.1).flatMap lc) s.2 ∧ K e w G (s.2 ++ L)) (fun s => ls.length - s.1) (0, A') ⟨rfl, rfl, rfl, rfl, rfl, rfl, trivial⟩ ⟨Nat.zero_le _, ho, hK⟩ ?_
          rintro ⟨i, A⟩ g w ⟨hi, ho, hK⟩
          simp only at hi ho hK
          refine sq <| sq <| rg <| ?_
          refine vl (mvv (v := .int _ _) rfl) <| vl mv <| vl (ln Tryz.underlying24 rfl ho.len) <| vl (lt rfl rfl) <| nl <| thn <| ?_
          refine cdP rfl (fun hc => ?_) (fun hc => ?_)
          · have hi' : i < ls.length := by simp only at hc; omega
            have hcn : (ls.take i).countP (rnw ow now un) ≤ i := Nat.le_trans List.countP_le_length (by simp; omega)
            refine sk <| thn <| sq <| bk <| sq <| rg <| ?_
            refine vl mv <| vl (mvv (v := .int _ _) rfl) <| vl (ixn Tryz.underlying24 Ty.s35 rfl ho.slw rfl hi') <| vl (fe Tryz.underlying35 rfl Ty.z3 rfl ho.slw (by first | omega | (simp only; omega))) <| vl (ldC Ty.o3 rfl (OS.fcell (c := lc) (fun _ => rfl) ho hK (rn_get hi') (j := 1) rfl)) <| vl (mvv (v := .int _ _) rfl) <| vl (eq rfl rfl) <| vl (mvv (v := .bool _) rfl) <| ?_
            refine splP (t := 48) rfl (fun h5 => ?_) (fun h5 => ?_)
            · refine gy rfl <| vl mv <| gy rfl <| vl (mvv (v := .int _ _) rfl) <| gy rfl <| vl (ixn Tryz.underlying24 Ty.s35 rfl ho.slw rfl hi') <| gy rfl <| vl (fe Tryz.underlying35 rfl Ty.z3 rfl ho.slw (by first | omega | (simp only; omega))) <| gy rfl <| vl (ldC Ty.o3 rfl (OS.fcell (c := lc) (fun _ => rfl) ho hK (rn_get hi') (j := 2) rfl)) <| gy rfl <| vl (mvv (v := .int _ _) rfl) <| gy rfl <| vl (ge rfl rfl) <| vl (pk rfl) <| vl (mvv (v := .bool _) rfl) <| ?_
              refine splP (t := 57) rfl (fun h6 => ?_) (fun h6 => ?_)
              · refine gy rfl <| vl mv <| gy rfl <| vl (mvv (v := .int _ _) rfl) <| gy rfl <| vl (ixn Tryz.underlying24 Ty.s35 rfl ho.slw rfl hi') <| gy rfl <| vl (fe Tryz.underlying35 rfl Ty.z3 rfl ho.slw (by first | omega | (simp only; omega))) <| gy rfl <| vl (ldC Ty.o3 rfl (OS.fcell (c := lc) (fun _ => rfl) ho hK (rn_get hi') (j := 2) rfl)) <| gy rfl <| vl (mvv (v := .int _ _) rfl) <| gy rfl <| vl (lt rfl rfl) <| vl (pk rfl) <| nl <| thn <| ?_
                refine cdP rfl (fun h7 => ?_) (fun h7 => ?_)
                · have hr : rnw ow now un ls[i] = true := decide_eq_true ⟨h5, by omega, h7⟩
                  have h1r : rn1 ow now un ls[i] = (ls[i].1, ls[i].2.1, un) := by unfold rn1; rw [hr]; rfl
                  refine sq <| rg <| ?_
                  refine vl mv <| vl (mvv (v := .int _ _) rfl) <| vl (mvv (v := .int _ _) rfl) <| vl (ixn Tryz.underlying24 Ty.s35 rfl ho.slw rfl hi') <| vl (fe Tryz.underlying35 rfl Ty.z3 rfl ho.slw (by first | omega | (simp only; omega))) <| ?_
                  refine osSetC (i := i * 3 + 2) (u := .int .i64 un) hK ho (by first | omega | (simp only; omega)) Ty.i3 rfl rfl rfl rfl fun A2 w ho2 hK => ?_
                  rw [flat_set (c := lc) (fun _ => rfl) _ i 2 ls[i] (ls[i].1, ls[i].2.1, un) (.int .i64 un) (rn_get hi') (by omega) rfl, ← h1r, rn_step hi'] at ho2
                  refine nl <| thn <| rg <| vl (mvv (v := .int _ _) rfl) <| vl (ad rfl rfl (by first | omega | (simp only; omega)) (by first | omega | (simp only; omega))) <| vl (asv (v := .int _ _) rfl) <| nl <| bkn <| thn <| rg <| vl (mvv (v := .int _ _) rfl) <| vl (ad rfl rfl (by first | omega | (simp only; omega)) (by first | omega | (simp only; omega))) <| vl (asv (v := .int _ _) rfl) <| nl <| thn <| ?_
                  exact ⟨(i + 1, A2), ⟨rfl, rfl, rfl, rfl, congrArg (Value.int .i64) (by simp only; rw [rn_count hi', hr]; simp), rfl, trivial⟩, ⟨hi', ho2, hK⟩, by simp only; omega⟩
                · refine sk <| bkn <| thn <| rg <| ?_
                  refine vl (mvv (v := .int _ _) rfl) <| vl (ad rfl rfl (by first | omega | (simp only; omega)) (by first | omega | (simp only; omega))) <| vl (asv (v := .int _ _) rfl) <| nl <| thn <| ?_
                  have hr : rnw ow now un ls[i] = false := decide_eq_false fun h => h7 h.2.2
                  have h1r : rn1 ow now un ls[i] = ls[i] := by unfold rn1; rw [hr]; rfl
                  exact ⟨(i + 1, A), ⟨rfl, rfl, rfl, rfl, congrArg (Value.int .i64) (by simp only; rw [rn_count hi', hr]; rfl), rfl, trivial⟩, ⟨hi', by
                    have := rn_step (ow := ow) (now := now) (un := un) hi'
                    rw [h1r] at this
                    simp only
                    rw [← this, rn_same hi']; exact ho, hK⟩, by simp only; omega⟩
              · refine gn rfl <| gn rfl <| gn rfl <| gn rfl <| gn rfl <| gn rfl <| gn rfl <| vl (pk rfl) <| nl <| thn <| ?_
                refine cdf rfl ?_
                refine sk <| bkn <| thn <| rg <| ?_
                refine vl (mvv (v := .int _ _) rfl) <| vl (ad rfl rfl (by first | omega | (simp only; omega)) (by first | omega | (simp only; omega))) <| vl (asv (v := .int _ _) rfl) <| nl <| thn <| ?_
                have hr : rnw ow now un ls[i] = false := decide_eq_false fun h => h6 (by have := h.2.1; omega)
                have h1r : rn1 ow now un ls[i] = ls[i] := by unfold rn1; rw [hr]; rfl
                exact ⟨(i + 1, A), ⟨rfl, rfl, rfl, rfl, congrArg (Value.int .i64) (by simp only; rw [rn_count hi', hr]; rfl), rfl, trivial⟩, ⟨hi', by
                  have := rn_step (ow := ow) (now := now) (un := un) hi'
                  rw [h1r] at this
                  simp only
                  rw [← this, rn_same hi']; exact ho, hK⟩, by simp only; omega⟩
            · refine gn rfl <| gn rfl <| gn rfl <| gn rfl <| gn rfl <| gn rfl <| gn rfl <| vl (pk rfl) <| vl (mvv (v := .bool _) rfl) <| gn rfl <| gn rfl <| gn rfl <| gn rfl <| gn rfl <| gn rfl <| gn rfl <| vl (pk rfl) <| nl <| thn <| ?_
              refine cdf rfl ?_
              refine sk <| bkn <| thn <| rg <| ?_
              refine vl (mvv (v := .int _ _) rfl) <| vl (ad rfl rfl (by first | omega | (simp only; omega)) (by first | omega | (simp only; omega))) <| vl (asv (v := .int _ _) rfl) <| nl <| thn <| ?_
              have hr : rnw ow now un ls[i] = false := decide_eq_false fun h => h5 h.1
              have h1r : rn1 ow now un ls[i] = ls[i] := by unfold rn1; rw [hr]; rfl
              exact ⟨(i + 1, A), ⟨rfl, rfl, rfl, rfl, congrArg (Value.int .i64) (by simp only; rw [rn_count hi', hr]; rfl), rfl, trivial⟩, ⟨hi', by
                have := rn_step (ow := ow) (now := now) (un := un) hi'
                rw [h1r] at this
                simp only
                rw [← this, rn_same hi']; exact ho, hK⟩, by simp only; omega⟩
          · have hi' : i = ls.length := by simp only at hc; omega
            subst hi'
            rw [List.drop_length, List.append_nil, List.take_length] at ho
            rw [List.take_length]
            refine ex <| the <| the <| bkh <| thn <| sq <| rg <| ?_
            refine vl mv <| vl (mvv (v := .int _ _) rfl) <| vl asg <| vl (asv (v := .int _ _) rfl) <| nl <| thn <| rt <| p2r (a := _) (b := .int _ _) rfl rfl <| ?_
            obtain ⟨G2, hG2, hx, hK⟩ := K.pubE (c := lc) (xs := renewL ls ow now un) (fun _ => rfl) hK (by unfold renewL; rw [List.length_map]; exact ho)
            exact ⟨G2, _, _, hG2, rfl, fun h => absurd hok h, fun _ => ⟨rfl, hx⟩, hK⟩
end
end Go.Proofs.YtjfjnmbgimfmaaaGreat
