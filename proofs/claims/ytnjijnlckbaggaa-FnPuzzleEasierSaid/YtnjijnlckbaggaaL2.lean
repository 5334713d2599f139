/- The laws on drawn puzzles: what each returns. Conditions: those that each row states. -/
import Derived.Test.YtnjijnlckbaggaaDr
namespace Go.Proofs.Ytnjijnlckbaggaa
open Go Go.Ro

section
variable {e w : World} {G : View} {L : Own} {cva : Value} {code : List Int}

theorem FnPuzzleFree_c (hK : K e w G L) (hc : BytS G cva code) : Ret Try.prog 3 #[cva] w (fun r w' => r = .bool true ∧ K e w' G L) := by
  refine enter1 (args := [cva]) Try.func3 rfl rfl rfl rfl ?_
  refine sq <| rg <| ?_
  refine vl (asv (v := .bool _) rfl) <| nl <| thn <| sq <| sq <| rg <| vl mv <| vl (ln Try.underlying22 rfl hc.len) <| vl (gt rfl rfl) <| nl <| thn <| ?_
  refine cdP rfl (fun hbig => ?_) (fun hbig => ?_)
  · refine sq <| rg <| ?_
    refine vl (asv (v := .bool _) rfl) <| nl <| thn <| rt <| thr <| p1r (a := .bool _) rfl <| ?_
    exact ⟨rfl, hK⟩
  · refine sk <| thn <| sq <| rg <| ?_
    refine vl mv <| ?_
    refine cl Try.call11 rfl (DrawPuzzleSolve_c hK hc) ?_
    rintro _ w ⟨da, db, rfl, hd1, hd2, hK⟩
    refine vl mv <| vl (ext rfl rfl) <| vl (ext rfl rfl) <| vl (asv (v := .int _ _) rfl) <| vl (asv (v := .int _ _) rfl) <| nl <| thn <| sq <| rg <| vl (mvv (v := .int _ _) rfl) <| vl (mvv (v := .int _ _) rfl) <| ?_
    refine cl Try.call12 rfl (implPuzzleSolve_c hK) ?_
    rintro _ w ⟨⟨s2, rfl, hs2⟩, hK⟩
    refine vl (asv (v := .int _ _) rfl) <| nl <| thn <| sq <| rg <| vl (mvv (v := .int _ _) rfl) <| vl (mvv (v := .int _ _) rfl) <| ?_
    refine cl Try.call13 rfl (specPuzzleSolve_c (C := fun w => K _ w _ _) hK) ?_
    rintro _ w ⟨⟨s1, rfl, hs1⟩, hK⟩
    refine vl (asv (v := .int _ _) rfl) <| nl <| thn <| sq <| sq <| rg <| vl (mvv (v := .int _ _) rfl) <| vl (mvv (v := .int _ _) rfl) <| vl (ne rfl rfl) <| vl (mvv (v := .bool _) rfl) <| ?_
    obtain rfl := hs2.uniq hs1
    refine splP (t := 25) rfl (fun h => ?_) (fun h => ?_)
    · exact absurd rfl h
    · have _ := trivial
      refine gy rfl <| vl (mvv (v := .int _ _) rfl) <| gy rfl <| vl (lt rfl rfl) <| vl (pk rfl) <| vl (mvv (v := .bool _) rfl) <| ?_
      refine splP (t := 29) rfl (fun h1 => ?_) (fun h1 => ?_)
      · refine gn rfl <| gn rfl <| vl (pk rfl) <| nl <| thn <| ?_
        refine cdt rfl ?_
        refine sq <| rg <| ?_
        refine vl (mvv (v := .int _ _) rfl) <| vl (mvv (v := .int _ _) rfl) <| vl (eq rfl rfl) <| vl (asv (v := .bool _) rfl) <| nl <| thn <| rt <| thr <| p1r (a := .bool _) rfl <| ?_
        exact ⟨by simp, hK⟩
      · refine gy rfl <| vl (mvv (v := .int _ _) rfl) <| gy rfl <| vl (eq rfl rfl) <| vl (pk rfl) <| nl <| thn <| ?_
        refine cdP rfl (fun h2 => ?_) (fun h2 => ?_)
        · refine sq <| rg <| ?_
          refine vl (mvv (v := .int _ _) rfl) <| vl (mvv (v := .int _ _) rfl) <| vl (eq rfl rfl) <| vl (asv (v := .bool _) rfl) <| nl <| thn <| rt <| thr <| p1r (a := .bool _) rfl <| ?_
          exact ⟨by simp, hK⟩
        · refine sk <| thn <| sq <| rg <| ?_
          refine vl (mvv (v := .int _ _) rfl) <| vl (mvv (v := .int _ _) rfl) <| vl (sb rfl rfl (by first | omega | (simp only; omega)) (by first | omega | (simp only; omega))) <| ?_
          refine cl Try.call12 rfl (implPuzzleSolve_c hK) ?_
          rintro _ w ⟨⟨a, rfl, ha⟩, hK⟩
          have hq := hs2.pred (by omega) h2 ha
          have hok := hs2.ok (by omega)
          refine vl (asv (v := .int _ _) rfl) <| nl <| thn <| sq <| rg <| vl (mvv (v := .int _ _) rfl) <| ?_
          refine cl Try.call12 rfl (implPuzzleSolve_c hK) ?_
          rintro _ w ⟨⟨z, rfl, hz⟩, hK⟩
          obtain rfl := PzSol.zero hok hz
          refine vl (eq rfl rfl) <| vl (mvv (v := .bool _) rfl) <| ?_
          refine splP (t := 43) rfl (fun g1 => ?_) (fun g1 => ?_)
          · refine gy rfl <| vl (mvv (v := .int _ _) rfl) <| gy rfl <| vl (ge rfl rfl) <| vl (pk rfl) <| vl (mvv (v := .bool _) rfl) <| ?_
            refine splP (t := 47) rfl (fun g2 => ?_) (fun g2 => ?_)
            · refine gy rfl <| vl (mvv (v := .int _ _) rfl) <| gy rfl <| vl (mvv (v := .int _ _) rfl) <| gy rfl <| vl (le rfl rfl) <| vl (pk rfl) <| vl (asv (v := .bool _) rfl) <| nl <| thn <| rt <| p1r (a := .bool _) rfl <| ?_
              exact ⟨by simp; omega, hK⟩
            · exfalso; omega
          · exfalso; omega

theorem FnPuzzleSolve_c (hK : K e w G L) (hc : BytS G cva code) : Ret Try.prog 4 #[cva] w (fun r w' => r = .bool true ∧ K e w' G L) := by
  refine enter1 (args := [cva]) Try.func4 rfl rfl rfl rfl ?_
  refine sq <| rg <| ?_
  refine vl (asv (v := .bool _) rfl) <| nl <| thn <| sq <| sq <| rg <| vl mv <| vl (ln Try.underlying22 rfl hc.len) <| vl (gt rfl rfl) <| nl <| thn <| ?_
  refine cdP rfl (fun hbig => ?_) (fun hbig => ?_)
  · refine sq <| rg <| ?_
    refine vl (asv (v := .bool _) rfl) <| nl <| thn <| rt <| thr <| p1r (a := .bool _) rfl <| ?_
    exact ⟨rfl, hK⟩
  · refine sk <| thn <| sq <| rg <| ?_
    refine vl mv <| ?_
    refine cl Try.call11 rfl (DrawPuzzleSolve_c hK hc) ?_
    rintro _ w ⟨da, db, rfl, hd1, hd2, hK⟩
    refine vl mv <| vl (ext rfl rfl) <| vl (ext rfl rfl) <| vl (asv (v := .int _ _) rfl) <| vl (asv (v := .int _ _) rfl) <| nl <| thn <| sq <| rg <| vl (mvv (v := .int _ _) rfl) <| vl (mvv (v := .int _ _) rfl) <| ?_
    refine cl Try.call12 rfl (implPuzzleSolve_c hK) ?_
    rintro _ w ⟨⟨s2, rfl, hs2⟩, hK⟩
    refine vl (asv (v := .int _ _) rfl) <| nl <| thn <| sq <| rg <| vl (mvv (v := .int _ _) rfl) <| vl (mvv (v := .int _ _) rfl) <| ?_
    refine cl Try.call13 rfl (specPuzzleSolve_c (C := fun w => K _ w _ _) hK) ?_
    rintro _ w ⟨⟨s1, rfl, hs1⟩, hK⟩
    refine vl (asv (v := .int _ _) rfl) <| nl <| thn <| sq <| sq <| rg <| vl (mvv (v := .int _ _) rfl) <| vl (mvv (v := .int _ _) rfl) <| vl (ne rfl rfl) <| nl <| thn <| ?_
    obtain rfl := hs2.uniq hs1
    have hsb : -1 ≤ s2 ∧ s2 ≤ 255 := by
      rcases hs2 with ⟨rfl, _⟩ | ⟨g0, g1, _⟩
      · omega
      · have := g1.2.1; omega
    refine cdP rfl (fun h => ?_) (fun h => ?_)
    · exact absurd rfl h
    · have _ := trivial
      refine sk <| thn <| sq <| rg <| ?_
      refine vl (mvv (v := .int _ _) rfl) <| vl (sb rfl rfl (by first | omega | (simp only; omega)) (by first | omega | (simp only; omega))) <| vl (asv (v := .int _ _) rfl) <| nl <| thn <| sq <| sq <| rg <| vl (mvv (v := .int _ _) rfl) <| vl (lt rfl rfl) <| nl <| thn <| ?_
      refine ct (σ := Unit) (fun _ => [(3, .int .i64 da), (4, .int .i64 db), (5, .int .i64 s2), (7, .int .i64 (if s2 < 0 then 255 else s2 - 1))]) (fun _ w => K e w G L) ?_ ?_
      · refine cdP rfl (fun hn => ?_) (fun hn => ?_)
        · refine rg <| ?_
          refine vl (asv (v := .int _ _) rfl) <| nl <| ctn <| ?_
          exact ⟨(), ⟨rfl, rfl, rfl, by rw [if_pos hn]; rfl, trivial⟩, hK⟩
        · refine sk <| ctn <| ?_
          exact ⟨(), ⟨rfl, rfl, rfl, by rw [if_neg hn]; rfl, trivial⟩, hK⟩
      · rintro _ g w hK
        generalize hl : (if s2 < 0 then 255 else s2 - 1) = last
        have hl' : last ≤ 255 ∧ (s2 < 0 ∨ last < s2) ∧ (0 ≤ s2 → last = s2 - 1) := by split at hl <;> omega
        refine thn <| sq <| sq <| rg <| ?_
        refine vl (asv (v := .int _ _) rfl) <| nl <| thn <| bk <| ?_
        refine lp (σ := Nat) (fun i => [(3, .int .i64 da), (4, .int .i64 db), (5, .int .i64 s2), (7, .int .i64 last), (8, .int .i64 (i : Int))]) (fun i w => i ≤ 256 ∧ K e w G L) (fun i => 256 - i) 0 ⟨rfl, rfl, rfl, rfl, rfl, trivial⟩ ⟨by omega, hK⟩ ?_
        rintro i g w ⟨hi, hK⟩
        refine sq <| sq <| rg <| ?_
        refine vl (mvv (v := .int _ _) rfl) <| vl (mvv (v := .int _ _) rfl) <| vl (le rfl rfl) <| nl <| thn <| ?_
        refine cdP rfl (fun hc => ?_) (fun hc => ?_)
        · refine sk <| thn <| sq <| bk <| sq <| rg <| ?_
          refine vl (mvv (v := .int _ _) rfl) <| vl (mvv (v := .int _ _) rfl) <| vl (mvv (v := .int _ _) rfl) <| ?_
          refine cl Try.call14 rfl (implPuzzleOk_c hK) ?_
          rintro _ w ⟨rfl, hK⟩
          refine nl <| thn <| ?_
          refine cdP rfl (fun hx => ?_) (fun hx => ?_)
          · exact absurd hx (hs2.not i (by omega) (by omega) (by omega))
          · have _ := trivial
            refine sk <| bkn <| thn <| rg <| ?_
            refine vl (mvv (v := .int _ _) rfl) <| vl (ad rfl rfl (by first | omega | (simp only; omega)) (by first | omega | (simp only; omega))) <| vl (asv (v := .int _ _) rfl) <| nl <| thn <| ?_
            exact ⟨i + 1, ⟨rfl, rfl, rfl, rfl, rfl, trivial⟩, ⟨by omega, hK⟩, by omega⟩
        · refine ex <| the <| the <| bkh <| thn <| sq <| rg <| ?_
          refine vl (mvv (v := .int _ _) rfl) <| vl (eq rfl rfl) <| vl (mvv (v := .bool _) rfl) <| ?_
          refine splP (t := 44) rfl (fun h1 => ?_) (fun h1 => ?_)
          · refine gn rfl <| gn rfl <| gn rfl <| gn rfl <| vl (pk rfl) <| vl (asv (v := .bool _) rfl) <| nl <| thn <| rt <| p1r (a := .bool _) rfl <| ?_
            exact ⟨rfl, hK⟩
          · refine gy rfl <| vl (mvv (v := .int _ _) rfl) <| gy rfl <| vl (mvv (v := .int _ _) rfl) <| gy rfl <| vl (mvv (v := .int _ _) rfl) <| gy rfl <| ?_
            refine cl Try.call14 rfl (implPuzzleOk_c hK) ?_
            rintro _ w ⟨rfl, hK⟩
            refine vl (pk rfl) <| vl (asv (v := .bool _) rfl) <| nl <| thn <| rt <| p1r (a := .bool _) rfl <| ?_
            exact ⟨by simp; exact hs2.ok (by omega), hK⟩

theorem FnPuzzleEasier_c (hK : K e w G L) (hc : BytS G cva code) : Ret Try.prog 5 #[cva] w (fun r w' => r = .bool true ∧ K e w' G L) := by
  refine enter1 (args := [cva]) Try.func5 rfl rfl rfl rfl ?_
  refine sq <| rg <| ?_
  refine vl (asv (v := .bool _) rfl) <| nl <| thn <| sq <| sq <| rg <| vl mv <| vl (ln Try.underlying22 rfl hc.len) <| vl (gt rfl rfl) <| nl <| thn <| ?_
  refine cdP rfl (fun hbig => ?_) (fun hbig => ?_)
  · refine sq <| rg <| ?_
    refine vl (asv (v := .bool _) rfl) <| nl <| thn <| rt <| thr <| p1r (a := .bool _) rfl <| ?_
    exact ⟨rfl, hK⟩
  · refine sk <| thn <| sq <| rg <| ?_
    refine vl mv <| ?_
    refine cl Try.call15 rfl (DrawPuzzleOk_c hK hc) ?_
    rintro _ w ⟨da, db, dc, rfl, hK⟩
    refine vl mv <| vl (ext rfl rfl) <| vl (ext rfl rfl) <| vl (ext rfl rfl) <| vl (asv (v := .int _ _) rfl) <| vl (asv (v := .int _ _) rfl) <| vl (asv (v := .int _ _) rfl) <| nl <| thn <| sq <| rg <| vl (mvv (v := .int _ _) rfl) <| vl (mvv (v := .int _ _) rfl) <| vl (mvv (v := .int _ _) rfl) <| ?_
    refine cl Try.call14 rfl (implPuzzleOk_c hK) ?_
    rintro _ w ⟨rfl, hK⟩
    refine vl (asv (v := .bool _) rfl) <| nl <| thn <| sq <| rg <| vl (mvv (v := .int _ _) rfl) <| vl (mvv (v := .int _ _) rfl) <| vl (mvv (v := .int _ _) rfl) <| ?_
    refine cl Try.call16 rfl (specPuzzleOk_c (C := fun w => K _ w _ _) hK) ?_
    rintro _ w ⟨rfl, hK⟩
    refine vl (asv (v := .bool _) rfl) <| nl <| thn <| sq <| sq <| rg <| vl (mvv (v := .bool _) rfl) <| vl (mvv (v := .bool _) rfl) <| vl (neB Try.underlying4 rfl rfl) <| vl (mvv (v := .bool _) rfl) <| ?_
    refine spl (t := 30) rfl (fun h => ?_) (fun h => ?_)
    · simp at h
    · have _ := trivial
      refine gy rfl <| vl (mvv (v := .bool _) rfl) <| gy rfl <| vl (nt rfl) <| vl (pk rfl) <| nl <| thn <| ?_
      refine cdP rfl (fun h1 => ?_) (fun h1 => ?_)
      · refine sq <| rg <| ?_
        refine vl (mvv (v := .bool _) rfl) <| vl (mvv (v := .bool _) rfl) <| vl (eqB Try.underlying4 rfl rfl) <| vl (asv (v := .bool _) rfl) <| nl <| thn <| rt <| thr <| p1r (a := .bool _) rfl <| ?_
        exact ⟨by simp, hK⟩
      · have hok : pzOk da db dc := Decidable.not_not.1 h1
        obtain ⟨m, rfl⟩ := Int.eq_ofNat_of_zero_le hok.2.2.1.1
        have hm := hok.2.2.1.2
        refine sk <| thn <| sq <| rg <| ?_
        refine vl (asv (v := .int _ _) rfl) <| nl <| thn <| sq <| sq <| rg <| vl (asv (v := .int _ _) rfl) <| nl <| thn <| bk <| ?_
        refine lp (σ := Nat) (fun i => [(3, .int .i64 da), (4, .int .i64 db), (5, .int .i64 (m : Int)), (8, .int .i64 ((2 : Int) ^ i)), (9, .int .i64 (i : Int))]) (fun i w => i ≤ m + 1 ∧ K e w G L) (fun i => m + 1 - i) 0 ⟨rfl, rfl, rfl, rfl, rfl, trivial⟩ ⟨by omega, hK⟩ ?_
        rintro i g w ⟨hi, hK⟩
        refine sq <| sq <| rg <| ?_
        refine vl (mvv (v := .int _ _) rfl) <| vl (mvv (v := .int _ _) rfl) <| vl (le rfl rfl) <| nl <| thn <| ?_
        refine cdP rfl (fun hc => ?_) (fun hc => ?_)
        · have hp := powN_le (k := i) (by omega)
          have hi' : pzOk da db i := hok.le (by omega) (by omega)
          refine sk <| thn <| sq <| bk <| sq <| sq <| rg <| ?_
          refine vl (mvv (v := .int _ _) rfl) <| vl (mvv (v := .int _ _) rfl) <| vl (mvv (v := .int _ _) rfl) <| ?_
          refine cl Try.call14 rfl (implPuzzleOk_c hK) ?_
          rintro _ w ⟨rfl, hK⟩
          refine vl (nt rfl) <| vl (mvv (v := .bool _) rfl) <| ?_
          refine splP (t := 47) rfl (fun hx => ?_) (fun hx => ?_)
          · exact absurd hi' hx
          · have _ := trivial
            refine gy rfl <| vl (mvv (v := .int _ _) rfl) <| gy rfl <| vl (mvv (v := .int _ _) rfl) <| gy rfl <| ?_
            refine cl Try.call17 rfl (implPuzzleHash_c hK) ?_
            rintro _ w ⟨rfl, hK⟩
            have hv : pzVal da db = pzHash da db := by unfold pzVal; rw [if_pos ⟨hok.1, hok.2.1⟩]
            have hvb := pzHash_bd da db
            have hmod : pzVal da db % 2 ^ i = 0 := by rw [hv]; have := hi'.2.2.2; simpa using this
            refine gy rfl <| vl (mvv (v := .int _ _) rfl) <| gy rfl <| vl (rm rfl rfl (by first | omega | (simp only; omega)) (by first | omega | (simp only; omega))) <| gy rfl <| vl (ne rfl rfl) <| vl (pk rfl) <| nl <| thn <| ?_
            refine cdP rfl (fun hy => ?_) (fun hy => ?_)
            · exact absurd hmod hy
            · have _ := trivial
              refine sk <| thn <| rg <| ?_
              refine vl (mvv (v := .int _ _) rfl) <| vl (ml rfl rfl (by first | omega | (simp only; omega)) (by first | omega | (simp only; omega))) <| vl (asv (v := .int _ _) rfl) <| nl <| bkn <| thn <| rg <| vl (mvv (v := .int _ _) rfl) <| vl (ad rfl rfl (by first | omega | (simp only; omega)) (by first | omega | (simp only; omega))) <| vl (asv (v := .int _ _) rfl) <| nl <| thn <| ?_
              exact ⟨i + 1, ⟨rfl, rfl, rfl, by rw [Int.pow_succ, Int.mul_comm]; rfl, rfl, trivial⟩, ⟨by omega, hK⟩, by omega⟩
        · refine ex <| the <| the <| bkh <| thn <| sq <| rg <| ?_
          refine vl (asv (v := .bool _) rfl) <| nl <| thn <| rt <| p1r (a := .bool _) rfl <| ?_
          exact ⟨rfl, hK⟩
end
end Go.Proofs.Ytnjijnlckbaggaa
