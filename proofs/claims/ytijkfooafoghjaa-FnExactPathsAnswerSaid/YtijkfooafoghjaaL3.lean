/- The laws on answers of paths: what each returns. Conditions: those that each row states. -/
import Derived.Test.YtijkfooafoghjaaPa
import Derived.Test.YtijkfooafoghjaaDr
namespace Go.Proofs.Ytijkfooafoghjaa
open Go Go.Ro

section
variable {e w : World} {G : View} {L : Own} {cva v : Value} {code xs : List Int}

theorem FnExactPathsAnswer_c (hK : K e w G L) (hv : IntS G v xs) : Ret Try.prog 5 #[v] w (fun r w' => r = .bool true ∧ ∃ G' L', K e w' G' L' ∧ VLe G G') := by
  refine enter1 (args := [v]) Try.func5 rfl rfl rfl rfl ?_
  refine sq <| rg <| ?_
  refine vl (asv (v := .bool _) rfl) <| nl <| thn <| sq <| sq <| rg <| vl mv <| vl (ln Try.underlying25 rfl hv.len) <| vl (gt rfl rfl) <| nl <| thn <| ?_
  refine cdP rfl (fun hbig => ?_) (fun hbig => ?_)
  · refine sq <| rg <| ?_
    refine vl (asv (v := .bool _) rfl) <| nl <| thn <| rt <| thr <| p1r (a := .bool _) rfl <| ?_
    exact ⟨rfl, _, _, hK, VLe.refl _⟩
  · refine sk <| thn <| sq <| rg <| ?_
    refine vl mv <| ?_
    refine cl Try.call15 rfl (toIntS_v hK hv (by first | omega | (simp only; omega))) ?_
    rintro v1 w ⟨G1, hG1, hv1, hK⟩
    refine cl Try.call14 rfl (specPathsAnswer_c hK (by assumption)) ?_
    rintro _ w ⟨⟨s1, rfl, hs1⟩, hK⟩
    refine vl (asv (v := .int _ _) rfl) <| nl <| thn <| sq <| rg <| vl mv <| ?_
    refine cl Try.call15 rfl (toIntS_v hK (hv.mono hG1) (by first | omega | (simp only; omega))) ?_
    rintro v2 w ⟨G2, hG2, hv2, hK⟩
    refine vl asg <| nl <| thn <| sq <| rg <| vl mv <| ?_
    refine cl Try.call16 rfl (implPathsAnswer_c hK (by assumption)) ?_
    rintro _ w ⟨⟨s2, rfl, hs2⟩, hK⟩
    refine vl (asv (v := .int _ _) rfl) <| nl <| thn <| sq <| sq <| rg <| vl (mvv (v := .int _ _) rfl) <| vl (mvv (v := .int _ _) rfl) <| vl (ne rfl rfl) <| nl <| thn <| ?_
    refine cdP rfl (fun h => ?_) (fun h => ?_)
    · exact absurd (hs2.uniq hs1) h
    · have _ := trivial
      refine sk <| thn <| sq <| sq <| rg <| ?_
      refine vl mv <| vl mv <| ?_
      refine cl Try.call15 rfl (toIntS_v hK (hv.mono (hG1.trans hG2)) (by first | omega | (simp only; omega))) ?_
      rintro v3 w ⟨G3, hG3, hv3, hK⟩
      have hv2' := hv2.mono hG3
      refine cl Try.call17 rfl (eqIntS_c hK hv2' hv3) ?_
      rintro _ w ⟨rfl, hK⟩
      refine vl (nt rfl) <| nl <| thn <| ?_
      refine cdP rfl (fun h' => ?_) (fun h' => ?_)
      · exact absurd rfl h'
      · have _ := trivial
        refine sk <| thn <| sq <| rg <| ?_
        refine vl (asv (v := .bool _) rfl) <| nl <| thn <| rt <| p1r (a := .bool _) rfl <| ?_
        exact ⟨rfl, _, _, hK, (hG1.trans hG2).trans hG3⟩

theorem DrawPathsAnswer_c (hK : K e w G L) (hc : BytS G cva code) :
    Ret Try.prog 20 #[cva] w (fun r w' => ∃ G' xs, VLe G G' ∧ IntS G' r xs ∧ (∀ x ∈ xs, 0 ≤ x) ∧ xs.length ≤ 9 ∧ K e w' G' L) := by
  refine enter1 (args := [cva]) Try.func20 rfl rfl rfl rfl ?_
  refine sq <| rg <| ?_
  refine vl asg <| nl <| thn <| sq <| rg <| vl mv <| ?_
  refine cl Try.call34 rfl (l6Open_c hK hc) ?_
  rintro _ w ⟨rb, cvb, code, rfl, hcode, hlen, hK⟩
  refine vl asg <| nl <| thn <| sq <| rg <| ?_
  refine bs0 hK Try.underlying25 Ty.i3 ?_
  intro b8 w hK
  refine vl asg <| nl <| thn <| sq <| sq <| rg <| vl (asv (v := .int _ _) rfl) <| nl <| thn <| bk <| ?_
  refine lp (σ := Nat × Int × Value × List Int × Own) (fun s => [(3, .pointer (some ⟨rb, 0, none⟩)), (4, s.2.2.1), (5, .int .i64 (s.1 : Int))]) (fun s w => s.1 ≤ 9 ∧ 0 ≤ s.2.1 ∧ s.2.1 ≤ 3 * s.1 ∧ s.2.2.2.1.length = s.1 ∧ (∀ x ∈ s.2.2.2.1, 0 ≤ x) ∧ OS 1 3 s.2.2.1 s.1 (ints s.2.2.2.1) s.2.2.2.2 ∧ K e w G ((rb, row [cvb, .int .i64 s.2.1] 57) :: (s.2.2.2.2 ++ L))) (fun s => 9 - s.1) (0, 0, .slice (some ⟨b8, 0, none⟩) 0 0, [], [(b8, row [] 3)]) ⟨rfl, rfl, rfl, trivial⟩ ⟨Nat.zero_le _, Int.le_refl 0, Int.le_refl 0, rfl, fun x hx => absurd hx (by simp), OS.lit rfl (Nat.zero_le _), K.mid1 (B := [_]) hK⟩ ?_
  rintro ⟨i, p, v, xs, A⟩ g w ⟨h1, h2, h3, h4, h5, ho, hK⟩
  simp only at h1 h2 h3 h4 h5 ho hK
  refine sq <| sq <| rg <| ?_
  refine vl (mvv (v := .int _ _) rfl) <| vl mv <| ?_
  refine cl Try.call35 rfl (pickN_c hK hcode hlen (by first | omega | (simp only; omega)) (by first | omega | (simp only; omega)) (by first | omega | (simp only; omega))) ?_
  rintro _ w ⟨⟨k11, rfl, hk11, hkn11⟩, hK⟩
  refine vl (lt rfl rfl) <| nl <| thn <| ?_
  refine cdP rfl (fun hlt => ?_) (fun hlt => ?_)
  · refine sk <| thn <| sq <| bk <| rg <| ?_
    refine vl mv <| vl mv <| ?_
    refine cl Try.call35 rfl (pickN_c hK hcode hlen (by first | omega | (simp only; omega)) (by first | omega | (simp only; omega)) (by first | omega | (simp only; omega))) ?_
    rintro _ w ⟨⟨k17, rfl, hk17, hkn17⟩, hK⟩
    refine vl mv <| ?_
    refine cl Try.call35 rfl (pickN_c hK hcode hlen (by first | omega | (simp only; omega)) (by first | omega | (simp only; omega)) (by first | omega | (simp only; omega))) ?_
    rintro _ w ⟨⟨k19, rfl, hk19, hkn19⟩, hK⟩
    refine vl (ml rfl rfl (by have := mul_lt2 hk17 hkn17 hk19 hkn19; omega) (by have := mul_lt2 hk17 hkn17 hk19 hkn19; omega)) <| ?_
    refine bsN [.tmp 20] hK Try.underlying25 Ty.i3 rfl rfl rfl rfl rfl rfl rfl rfl ?_
    intro b21 w hK
    replace hK := hK.perm (List.perm_middle.cons _)
    refine ap1 (news := [.int .i64 (k17 * k19)]) hK Try.underlying25 Ty.i3 rfl rfl rfl ho rfl rfl rfl (by first | omega | (simp only; omega)) fun v' A' w ho' hK => ?_
    refine vl asg <| nl <| bkn <| thn <| rg <| vl (mvv (v := .int _ _) rfl) <| vl (ad rfl rfl (by first | omega | (simp only; omega)) (by first | omega | (simp only; omega))) <| vl (asv (v := .int _ _) rfl) <| nl <| thn <| ?_
    refine ⟨⟨i + 1, p + 1 + 1 + 1, v', xs ++ [k17 * k19], A'⟩, ⟨rfl, rfl, rfl, trivial⟩, ⟨by omega, ?_, ?_, by simp [h4], ?_, by simpa [ints] using ho', K.back1 hK⟩, by simp only; omega⟩
    · show 0 ≤ p + 1 + 1 + 1; omega
    · show p + 1 + 1 + 1 ≤ 3 * ((i + 1 : Nat) : Int); omega
    · intro x hx
      rcases List.mem_append.1 hx with h | h
      · exact h5 x h
      · simp at h; subst h; exact (mul_lt2 hk17 hkn17 hk19 hkn19).1
  · refine ex <| the <| the <| bkh <| thn <| sq <| rg <| ?_
    refine vl mv <| vl asg <| nl <| thn <| rt <| p1r (a := _) rfl <| ?_
    obtain ⟨G', hG, hx, hK⟩ := (K.drop1 hK).pubO (h4 ▸ ho)
    exact ⟨G', xs, hG, hx, h5, by omega, hK⟩

theorem FnPathsAnswer_c (hK : K e w G L) (hc : BytS G cva code) : Ret Try.prog 7 #[cva] w (fun r w' => r = .bool true ∧ ∃ G' L', K e w' G' L' ∧ VLe G G') := by
  refine enter1 (args := [cva]) Try.func7 rfl rfl rfl rfl ?_
  refine sq <| rg <| ?_
  refine vl (asv (v := .bool _) rfl) <| nl <| thn <| sq <| sq <| rg <| vl mv <| vl (ln Try.underlying30 rfl hc.len) <| vl (gt rfl rfl) <| nl <| thn <| ?_
  refine cdP rfl (fun hbig => ?_) (fun hbig => ?_)
  · refine sq <| rg <| ?_
    refine vl (asv (v := .bool _) rfl) <| nl <| thn <| rt <| thr <| p1r (a := .bool _) rfl <| ?_
    exact ⟨rfl, _, _, hK, VLe.refl _⟩
  · refine sk <| thn <| sq <| rg <| ?_
    refine vl mv <| ?_
    refine cl Try.call20 rfl (DrawPathsAnswer_c hK hc) ?_
    rintro v w ⟨G1, xs, hG1, hv, hp, h9, hK⟩
    refine vl asg <| nl <| thn <| sq <| rg <| vl mv <| ?_
    refine cl Try.call16 rfl (implPathsAnswer_c hK (by assumption)) ?_
    rintro _ w ⟨⟨s2, rfl, hs2⟩, hK⟩
    refine vl (asv (v := .int _ _) rfl) <| nl <| thn <| sq <| rg <| vl mv <| ?_
    refine cl Try.call14 rfl (specPathsAnswer_c hK (by assumption)) ?_
    rintro _ w ⟨⟨s1, rfl, hs1⟩, hK⟩
    refine vl (asv (v := .int _ _) rfl) <| nl <| thn <| sq <| sq <| rg <| vl (mvv (v := .int _ _) rfl) <| vl (mvv (v := .int _ _) rfl) <| vl (ne rfl rfl) <| vl (mvv (v := .bool _) rfl) <| ?_
    have hss := hs2.uniq hs1
    subst hss
    refine splP (t := 21) rfl (fun hne => ?_) (fun hne => ?_)
    · exact absurd rfl hne
    · have _ := trivial
      refine gy rfl <| vl mv <| gy rfl <| vl (ln Try.underlying25 rfl hv.len) <| gy rfl <| vl (gt rfl rfl) <| vl (pk rfl) <| nl <| thn <| ?_
      refine cdP rfl (fun h7 => ?_) (fun h7 => ?_)
      · refine sq <| rg <| ?_
        refine vl (mvv (v := .int _ _) rfl) <| vl (mvv (v := .int _ _) rfl) <| vl (eq rfl rfl) <| vl (asv (v := .bool _) rfl) <| nl <| thn <| rt <| thr <| p1r (a := .bool _) rfl <| ?_
        exact ⟨by simp, _, _, hK, hG1⟩
      · refine sk <| thn <| sq <| sq <| rg <| ?_
        refine vl (asv (v := .int _ _) rfl) <| nl <| thn <| bk <| ?_
        refine lp (σ := Nat) (fun i => [(3, v), (4, .int .i64 s2), (6, .int .i64 (i : Int))]) (fun i w => i ≤ xs.length ∧ K e w G1 L) (fun i => xs.length - i) 0 ⟨rfl, rfl, rfl, trivial⟩ ⟨Nat.zero_le _, hK⟩ ?_
        rintro i g w ⟨h1, hK⟩
        refine sq <| sq <| rg <| ?_
        refine vl (mvv (v := .int _ _) rfl) <| vl mv <| vl (ln Try.underlying25 rfl hv.len) <| vl (lt rfl rfl) <| nl <| thn <| ?_
        refine cdP rfl (fun hi => ?_) (fun hi => ?_)
        · refine sk <| thn <| sq <| bk <| sq <| rg <| ?_
          refine vl (asv (v := .int _ _) rfl) <| nl <| thn <| sq <| sq <| rg <| vl (asv (v := .int _ _) rfl) <| nl <| thn <| bk <| ?_
          have hi' : i < xs.length := by omega
          refine lp (σ := Nat × Nat) (fun s => [(3, v), (4, .int .i64 s2), (6, .int .i64 (i : Int)), (7, .int .i64 (s.2 : Int)), (8, .int .i64 (s.1 : Int))]) (fun s w => s.1 ≤ xs.length ∧ s.2 = (xs.take s.1).count xs[i] ∧ K e w G1 L) (fun s => xs.length - s.1) (0, 0) ⟨rfl, rfl, rfl, rfl, rfl, trivial⟩ ⟨Nat.zero_le _, by simp, hK⟩ ?_
          rintro ⟨k, n⟩ g w ⟨hk, hn, hK⟩
          simp only at hk hn hK
          refine sq <| sq <| rg <| ?_
          refine vl (mvv (v := .int _ _) rfl) <| vl mv <| vl (ln Try.underlying25 rfl hv.len) <| vl (lt rfl rfl) <| nl <| thn <| ?_
          refine cdP rfl (fun hkx => ?_) (fun hkx => ?_)
          · have hkx' : k < xs.length := by simp only at hkx; omega
            have hc0 := count_take_le xs k xs[i]
            have hc1 := count_le_len xs xs[i]
            refine sk <| thn <| sq <| bk <| sq <| ?_
            refine rgq (fun w => K _ w _ _) Ty.mixed (by kernel_rfl) (hK.drawn _) ?_
            refine qv (fun w hK => mv) <| ?_; refine qv (fun w hK => (mvv (v := .int _ _) rfl)) <| ?_; refine qv (fun w hK => (ixn1 Try.underlying25 Ty.s3 rfl hv.1 rfl (by first | omega | (simp only; omega)))) <| ?_; refine qldV Ty.o3 rfl (hv.at (by first | omega | (simp only; omega))) <| ?_; refine qv (fun w hK => mv) <| ?_; refine qv (fun w hK => (mvv (v := .int _ _) rfl)) <| ?_; refine qv (fun w hK => (ixn1 Try.underlying25 Ty.s3 rfl hv.1 rfl (by first | omega | (simp only; omega)))) <| ?_; refine qldV Ty.o3 rfl (hv.at (by first | omega | (simp only; omega))) <| ?_; refine qv (fun w hK => (eq rfl rfl)) <| ?_; refine qn <| ?_
            intro w hK
            refine thn <| ?_
            refine cdP rfl (fun hx => ?_) (fun hx => ?_)
            · refine rg <| ?_
              refine vl (mvv (v := .int _ _) rfl) <| vl (ad rfl rfl (by first | omega | (simp only; omega)) (by first | omega | (simp only; omega))) <| vl (asv (v := .int _ _) rfl) <| nl <| bkn <| thn <| rg <| vl (mvv (v := .int _ _) rfl) <| vl (ad rfl rfl (by first | omega | (simp only; omega)) (by first | omega | (simp only; omega))) <| vl (asv (v := .int _ _) rfl) <| nl <| thn <| ?_
              refine ⟨⟨k + 1, n + 1⟩, ⟨rfl, rfl, rfl, rfl, rfl, trivial⟩, ⟨by simp only; omega, ?_, hK⟩, by simp only; omega⟩
              have := count_take_succ hkx' xs[i]
              rw [if_pos hx] at this
              simp only; omega
            · refine sk <| bkn <| thn <| rg <| ?_
              refine vl (mvv (v := .int _ _) rfl) <| vl (ad rfl rfl (by first | omega | (simp only; omega)) (by first | omega | (simp only; omega))) <| vl (asv (v := .int _ _) rfl) <| nl <| thn <| ?_
              refine ⟨⟨k + 1, n⟩, ⟨rfl, rfl, rfl, rfl, rfl, trivial⟩, ⟨by simp only; omega, ?_, hK⟩, by simp only; omega⟩
              have := count_take_succ hkx' xs[i]
              rw [if_neg hx] at this
              simp only; omega
          · have hkx' : k = xs.length := by simp only at hkx; omega
            subst hkx'
            rw [List.take_length] at hn
            have hc1 := count_le_len xs xs[i]
            have hiff := hs1.iff (by omega) hp (List.getElem_mem hi')
            refine ex <| the <| the <| bkh <| thn <| sq <| rg <| ?_
            refine vl (mvv (v := .int _ _) rfl) <| vl (ml rfl rfl (by simp only; omega) (by simp only; omega)) <| vl mv <| vl (ln Try.underlying25 rfl hv.len) <| vl (gt rfl rfl) <| vl mv <| vl (mvv (v := .int _ _) rfl) <| vl (ixn1 Try.underlying25 Ty.s3 rfl hv.1 rfl (by first | omega | (simp only; omega))) <| vl (ldV hK Ty.o3 rfl (hv.at (by first | omega | (simp only; omega)))) <| vl (mvv (v := .int _ _) rfl) <| vl (eq rfl rfl) <| vl (neB Try.underlying4 rfl rfl) <| nl <| thn <| ?_
            refine cdB rfl (fun hx => ?_) (fun hx => ?_)
            · exfalso
              revert hx
              simp only
              by_cases hxs : xs[i] = s2
              · have := hiff.2 hxs
                simp [hxs]; omega
              · have := mt hiff.1 hxs
                simp [hxs]; omega
            · have _ := trivial
              refine sk <| bkn <| thn <| rg <| ?_
              refine vl (mvv (v := .int _ _) rfl) <| vl (ad rfl rfl (by first | omega | (simp only; omega)) (by first | omega | (simp only; omega))) <| vl (asv (v := .int _ _) rfl) <| nl <| thn <| ?_
              exact ⟨i + 1, ⟨rfl, rfl, rfl, trivial⟩, ⟨by omega, hK⟩, by omega⟩
        · refine ex <| the <| the <| bkh <| thn <| sq <| rg <| ?_
          refine vl (mvv (v := .int _ _) rfl) <| vl (eq rfl rfl) <| vl (mvv (v := .bool _) rfl) <| ?_
          refine splP (t := 66) rfl (fun h1 => ?_) (fun h1 => ?_)
          · refine gn rfl <| gn rfl <| gn rfl <| vl (pk rfl) <| vl (asv (v := .bool _) rfl) <| nl <| thn <| rt <| p1r (a := .bool _) rfl <| ?_
            exact ⟨by simp, _, _, hK, hG1⟩
          · refine gy rfl <| vl mv <| gy rfl <| vl (mvv (v := .int _ _) rfl) <| gy rfl <| ?_
            refine cl Try.call21 rfl (hasInt_c hK (by assumption)) ?_
            rintro _ w ⟨rfl, hK⟩
            refine vl (pk rfl) <| vl (asv (v := .bool _) rfl) <| nl <| thn <| rt <| p1r (a := .bool _) rfl <| ?_
            exact ⟨by rw [decide_eq_true (hs1.mem.resolve_left h1)], _, _, hK, hG1⟩
end
end Go.Proofs.Ytijkfooafoghjaa
