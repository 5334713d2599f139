/- Contracts of the functions on scans. Conditions: those that each row states. -/
import Derived.Test.YtjfjnmbgimfmaaaSn
namespace Go.Proofs.Ytjfjnmbgimfmaaa
open Go Go.Ro

section
variable {e w : World} {G : View} {L A : Own} {v u t : Value} {xs ys ks ts : List Int} {ls : List Ls} {n : Int}

theorem implScanValid_c (hK : K e w G L) (ht : IntS G t ts) : Ret Try.prog 57 #[.agg #[.int .i64 n, t]] w (fun r w' => r = .bool (dec (SnOk (n, ts))) ∧ K e w' G L) := by
  have hle := ht.le
  refine enter1 (args := [.agg #[.int .i64 n, t]]) Try.func57 rfl rfl rfl rfl ?_
  refine sq <| rg <| ?_
  refine bx hK rfl rfl ?_
  intro b1 w hK
  refine vl (asv (v := .bool _) rfl) <| nl <| thn <| sq <| ?_
  refine rgq (fun w => K _ w _ _) Ty.mixed (by kernel_rfl) (hK.drawn _) ?_
  refine qv (fun w hK => (fa Try.underlying27 rfl Ty.z3 rfl)) <| ?_; refine qldO Ty.o3 0 rfl rfl rfl <| ?_
  refine qcl Try.call61 rfl (fun w hK => inRange_c (C := fun w => K _ w _ _) hK) ?_
  refine qv (fun w hK => (mvv (v := .bool _) rfl)) <| ?_
  refine qsplP (t := 6) rfl (fun h1 => ?_) (fun h1 => ?_)
  · refine qgy rfl <| ?_; refine qv (fun w hK => (fa Try.underlying27 rfl Ty.z22 rfl)) <| ?_; refine qgy rfl <| ?_; refine qldO Ty.o22 0 rfl rfl rfl <| ?_; refine qgy rfl <| ?_
    refine qcl Try.call58 rfl (fun w hK => ascendingPositions_c hK (by assumption)) ?_
    refine qv (fun w hK => (pk rfl)) <| ?_; refine qv (fun w hK => (mvv (v := .bool _) rfl)) <| ?_
    refine qspl (t := 11) rfl (fun h2 => ?_) (fun h2 => ?_)
    · have h2' := of_dec h2
      refine qgy rfl <| ?_; refine qv (fun w hK => (fa Try.underlying27 rfl Ty.z22 rfl)) <| ?_; refine qgy rfl <| ?_; refine qldO Ty.o22 0 rfl rfl rfl <| ?_; refine qgy rfl <| ?_; refine qv (fun w hK => (ln Try.underlying22 rfl ht.len)) <| ?_; refine qgy rfl <| ?_; refine qv (fun w hK => (eq rfl rfl)) <| ?_; refine qgy rfl <| ?_; refine qv (fun w hK => (mvv (v := .bool _) rfl)) <| ?_
      refine qsplP (t := 16) rfl (fun h3 => ?_) (fun h3 => ?_)
      · have h3' : ts = [] := List.eq_nil_of_length_eq_zero (by omega)
        subst h3'
        refine qgn rfl <| ?_; refine qgn rfl <| ?_; refine qgn rfl <| ?_; refine qgn rfl <| ?_; refine qgn rfl <| ?_; refine qgn rfl <| ?_; refine qgn rfl <| ?_; refine qgn rfl <| ?_; refine qgn rfl <| ?_; refine qgn rfl <| ?_; refine qgn rfl <| ?_; refine qgy rfl <| ?_; refine qv (fun w hK => (pk rfl)) <| ?_; refine qv (fun w hK => (pk rfl)) <| ?_; refine qv (fun w hK => (asv (v := .bool _) rfl)) <| ?_; refine qn <| ?_
        intro w hK
        refine thn <| rt <| p1r (a := .bool _) rfl <| ?_
        exact ⟨by rw [dec_t ⟨h1, h2', by simp⟩], hK.drop1⟩
      · refine qgy rfl <| ?_; refine qv (fun w hK => (fa Try.underlying27 rfl Ty.z22 rfl)) <| ?_; refine qgy rfl <| ?_; refine qldO Ty.o22 0 rfl rfl rfl <| ?_; refine qgy rfl <| ?_; refine qv (fun w hK => (fa Try.underlying27 rfl Ty.z22 rfl)) <| ?_; refine qgy rfl <| ?_; refine qldO Ty.o22 0 rfl rfl rfl <| ?_; refine qgy rfl <| ?_; refine qv (fun w hK => (ln Try.underlying22 rfl ht.len)) <| ?_; refine qgy rfl <| ?_; refine qv (fun w hK => (sb rfl rfl (by first | omega | (simp only; omega)) (by first | omega | (simp only; omega)))) <| ?_; refine qgy rfl <| ?_; refine qv (fun w hK => (ixm1 (m := ts.length - 1) Try.underlying22 Ty.s3 rfl ht.1 rfl (by first | omega | (simp only; omega)) (by first | omega | (simp only; omega)))) <| ?_; refine qgy rfl <| ?_; refine qldV Ty.o3 rfl (ht.at (by first | omega | (simp only; omega))) <| ?_; refine qgy rfl <| ?_; refine qv (fun w hK => (fa Try.underlying27 rfl Ty.z3 rfl)) <| ?_; refine qgy rfl <| ?_; refine qldO Ty.o3 0 rfl rfl rfl <| ?_; refine qgy rfl <| ?_; refine qv (fun w hK => (lt rfl rfl)) <| ?_; refine qgy rfl <| ?_; refine qv (fun w hK => (pk rfl)) <| ?_; refine qv (fun w hK => (pk rfl)) <| ?_; refine qv (fun w hK => (asv (v := .bool _) rfl)) <| ?_; refine qn <| ?_
        intro w hK
        refine thn <| rt <| p1r (a := .bool _) rfl <| ?_
        refine ⟨?_, hK.drop1⟩
        rw [← dec_dec]
        congr 1
        exact dec_congr ⟨fun h => ⟨h1, h2', sn_last (ts := ts) h2' (show 0 < ts.length by omega) h⟩, fun h => h.2.2 _ (List.getElem_mem _)⟩
    · refine qgn rfl <| ?_; refine qgn rfl <| ?_; refine qgn rfl <| ?_; refine qgn rfl <| ?_; refine qgn rfl <| ?_; refine qgu rfl <| ?_; refine qgu rfl <| ?_; refine qgu rfl <| ?_; refine qgu rfl <| ?_; refine qgu rfl <| ?_; refine qgu rfl <| ?_; refine qgu rfl <| ?_; refine qgu rfl <| ?_; refine qgu rfl <| ?_; refine qgu rfl <| ?_; refine qgu rfl <| ?_; refine qgn rfl <| ?_; refine qv (fun w hK => (pk rfl)) <| ?_; refine qv (fun w hK => (asv (v := .bool _) rfl)) <| ?_; refine qn <| ?_
      intro w hK
      refine thn <| rt <| p1r (a := .bool _) rfl <| ?_
      exact ⟨by rw [dec_f]; intro h; exact not_dec h2 h.2.1, hK.drop1⟩
  · refine qgn rfl <| ?_; refine qgn rfl <| ?_; refine qgn rfl <| ?_; refine qv (fun w hK => (pk rfl)) <| ?_; refine qv (fun w hK => (mvv (v := .bool _) rfl)) <| ?_; refine qgn rfl <| ?_; refine qgn rfl <| ?_; refine qgn rfl <| ?_; refine qgn rfl <| ?_; refine qgn rfl <| ?_; refine qgu rfl <| ?_; refine qgu rfl <| ?_; refine qgu rfl <| ?_; refine qgu rfl <| ?_; refine qgu rfl <| ?_; refine qgu rfl <| ?_; refine qgu rfl <| ?_; refine qgu rfl <| ?_; refine qgu rfl <| ?_; refine qgu rfl <| ?_; refine qgu rfl <| ?_; refine qgn rfl <| ?_; refine qv (fun w hK => (pk rfl)) <| ?_; refine qv (fun w hK => (asv (v := .bool _) rfl)) <| ?_; refine qn <| ?_
    intro w hK
    refine thn <| rt <| p1r (a := .bool _) rfl <| ?_
    exact ⟨by rw [dec_f]; intro h; exact h1 h.1, hK.drop1⟩

theorem specScanValid_c (hK : K e w G L) (ht : IntS G t ts) : Ret Try.prog 75 #[.agg #[.int .i64 n, t]] w (fun r w' => r = .bool (dec (SnOk (n, ts))) ∧ K e w' G L) := by
  have hle := ht.le
  refine enter1 (args := [.agg #[.int .i64 n, t]]) Try.func75 rfl rfl rfl rfl ?_
  refine sq <| rg <| ?_
  refine bx hK rfl rfl ?_
  intro b1 w hK
  refine vl (asv (v := .bool _) rfl) <| nl <| thn <| sq <| sq <| rg <| vl (asv (v := .int _ _) rfl) <| nl <| thn <| bk <| ?_
  refine lp (σ := Nat) (fun i => [(1, .pointer (some ⟨b1, 0, none⟩)), (3, .int .i64 (i : Int))]) (fun i w => i ≤ ts.length ∧ (∀ x ∈ ts.take i, x < n) ∧ K e w G ((b1, row [.int .i64 n, t] 27) :: L)) (fun i => ts.length - i) 0 ⟨rfl, rfl, trivial⟩ ⟨Nat.zero_le _, by simp, hK⟩ ?_
  rintro i g w ⟨hi, ha, hK⟩
  refine sq <| sq <| rg <| ?_
  refine vl (mvv (v := .int _ _) rfl) <| vl (fa Try.underlying27 rfl Ty.z22 rfl) <| vl (ldO hK Ty.o22 0 rfl rfl rfl) <| vl (ln Try.underlying22 rfl ht.len) <| vl (lt rfl rfl) <| nl <| thn <| ?_
  refine cdP rfl (fun hc => ?_) (fun hc => ?_)
  · have hi' : i < ts.length := by omega
    refine sk <| thn <| sq <| bk <| sq <| ?_
    refine rgq (fun w => K _ w _ _) Ty.mixed (by kernel_rfl) (hK.drawn _) ?_
    refine qv (fun w hK => (fa Try.underlying27 rfl Ty.z22 rfl)) <| ?_; refine qldO Ty.o22 0 rfl rfl rfl <| ?_; refine qv (fun w hK => (mvv (v := .int _ _) rfl)) <| ?_; refine qv (fun w hK => (ixn1 Try.underlying22 Ty.s3 rfl ht.1 rfl (by first | omega | (simp only; omega)))) <| ?_; refine qldV Ty.o3 rfl (ht.at (by first | omega | (simp only; omega))) <| ?_; refine qv (fun w hK => (fa Try.underlying27 rfl Ty.z3 rfl)) <| ?_; refine qldO Ty.o3 0 rfl rfl rfl <| ?_; refine qv (fun w hK => (ge rfl rfl)) <| ?_; refine qn <| ?_
    intro w hK
    refine thn <| ?_
    refine cdP rfl (fun h1 => ?_) (fun h1 => ?_)
    · refine sq <| rg <| ?_
      refine vl (asv (v := .bool _) rfl) <| nl <| thn <| rt <| bkr <| thr <| thr <| bkr <| thr <| p1r (a := .bool _) rfl <| ?_
      exact ⟨by rw [dec_f]; intro h; have := h.2.2 _ (List.getElem_mem hi'); simp at this; omega, hK.drop1⟩
    · refine sk <| bkn <| thn <| rg <| ?_
      refine vl (mvv (v := .int _ _) rfl) <| vl (ad rfl rfl (by first | omega | (simp only; omega)) (by first | omega | (simp only; omega))) <| vl (asv (v := .int _ _) rfl) <| nl <| thn <| ?_
      exact ⟨i + 1, ⟨rfl, rfl, trivial⟩, ⟨hi', all_snoc hi' ha (by omega), hK⟩, by omega⟩
  · have hi' : i = ts.length := by omega
    subst hi'
    rw [List.take_length] at ha
    refine ex <| the <| the <| bkh <| thn <| sq <| rg <| ?_
    refine vl (fa Try.underlying27 rfl Ty.z3 rfl) <| vl (ldO hK Ty.o3 0 rfl rfl rfl) <| ?_
    refine cl Try.call109 rfl (l6In_c (C := fun w => K _ w _ _) hK) ?_
    rintro _ w ⟨rfl, hK⟩
    refine vl (mvv (v := .bool _) rfl) <| ?_
    refine splP (t := 22) rfl (fun h1 => ?_) (fun h1 => ?_)
    · refine gy rfl <| vl (fa Try.underlying27 rfl Ty.z22 rfl) <| gy rfl <| vl (ldO hK Ty.o22 0 rfl rfl rfl) <| gy rfl <| ?_
      refine cl Try.call76 rfl (l1Nodes_c hK (by assumption)) ?_
      rintro _ w ⟨rfl, hK⟩
      refine vl (pk rfl) <| vl (asv (v := .bool _) rfl) <| nl <| thn <| rt <| p1r (a := .bool _) rfl <| ?_
      refine ⟨?_, hK.drop1⟩
      congr 1
      exact dec_congr ⟨fun h => ⟨h1, h, ha⟩, fun h => h.2.1⟩
    · refine gn rfl <| gn rfl <| gn rfl <| vl (pk rfl) <| vl (asv (v := .bool _) rfl) <| nl <| thn <| rt <| p1r (a := .bool _) rfl <| ?_
      exact ⟨by rw [dec_f]; intro h; exact h1 h.1, hK.drop1⟩

theorem l41New_c (hK : K e w G L) : Ret Try.prog 27 #[] w (fun r w' => ∃ t' A, r = .agg #[.int .i64 0, t'] ∧ OS 1 3 t' 0 (ints []) A ∧ K e w' G (A ++ L)) := by
  refine enterG1 (args := []) Try.func27 rfl rfl rfl rfl ?_
  refine sq <| rg <| ?_
  refine al hK Ty.i27 rfl ?_
  intro b0 w hK
  refine nl <| thn <| sq <| rg <| ?_
  refine bs0 hK Try.underlying22 Ty.i3 ?_
  intro b1 w hK
  refine vl (bd [(1, _)] Ty.p27 Ty.i27 rfl ⟨⟨rfl, rfl⟩, trivial⟩ rfl) <| ?_
  refine soS hK Ty.i27 1 rfl rfl rfl rfl rfl rfl ?_
  intro w hK
  refine nl <| thn <| rt <| pg1r (rvS hK Ty.a27 Ty.s27 1 rfl rfl rfl) <| ?_
  exact ⟨_, [_], rfl, OS.none, hK.perm (List.Perm.swap _ _ _) |>.drop1⟩

end
end Go.Proofs.Ytjfjnmbgimfmaaa