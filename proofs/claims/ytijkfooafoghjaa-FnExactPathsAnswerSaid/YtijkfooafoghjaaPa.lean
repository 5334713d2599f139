/- Contracts of the functions on answers and paths. Conditions: those that each row states. -/
import Derived.Test.YtijkfooafoghjaaIn
import Derived.Test.YtijkfooafoghjaaMp
import Derived.Test.YtijkfooafoghjaaPaM
namespace Go.Proofs.Ytijkfooafoghjaa
open Go Go.Ro

section
variable {e w : World} {G : View} {L : Own} {v u : Value} {xs ys : List Int}

theorem specPathsAnswer_c (hK : K e w G L) (hv : IntS G v xs) : Ret Try.prog 14 #[v] w (fun r w' => (∃ s, r = .int .i64 s ∧ Maj xs s) ∧ K e w' G L) := by
  have hle := hv.le
  refine enter1 (args := [v]) Try.func14 rfl rfl rfl rfl ?_
  refine sq <| rg <| ?_
  refine vl (asv (v := .int _ _) rfl) <| nl <| thn <| sq <| sq <| rg <| vl (asv (v := .int _ _) rfl) <| nl <| thn <| bk <| ?_
  refine lp (σ := Nat) (fun i => [(0, v), (3, .int .i64 (i : Int))]) (fun i w => i ≤ xs.length ∧ (∀ j, (hj : j < i) → (hl : j < xs.length) → 2 * xs.count xs[j] ≤ xs.length) ∧ K e w G L) (fun i => xs.length - i) 0 ⟨rfl, rfl, trivial⟩ ⟨by omega, fun j h => by omega, hK⟩ ?_
  rintro i g w ⟨hi, hn, hK⟩
  refine sq <| sq <| rg <| ?_
  refine vl (mvv (v := .int _ _) rfl) <| vl mv <| vl (ln Try.underlying25 rfl hv.len) <| vl (lt rfl rfl) <| vl (mvv (v := .bool _) rfl) <| ?_
  refine splP (t := 10) rfl (fun h1 => ?_) (fun h1 => ?_)
  · refine gy rfl <| vl mv <| gy rfl <| vl (ln Try.underlying25 rfl hv.len) <| gy rfl <| vl (le rfl rfl) <| vl (pk rfl) <| nl <| thn <| ?_
    refine cdP rfl (fun h2 => ?_) (fun h2 => ?_)
    · refine sk <| thn <| sq <| bk <| sq <| rg <| ?_
      refine vl (asv (v := .int _ _) rfl) <| nl <| thn <| sq <| sq <| rg <| vl (asv (v := .int _ _) rfl) <| nl <| thn <| bk <| ?_
      refine lp (σ := Nat) (fun k => [(0, v), (3, .int .i64 (i : Int)), (4, .int .i64 (((xs.take k).count xs[i] : Nat) : Int)), (5, .int .i64 (k : Int))]) (fun k w => k ≤ xs.length ∧ K e w G L) (fun k => xs.length - k) 0 ⟨rfl, rfl, by simp; rfl, rfl, trivial⟩ ⟨by omega, hK⟩ ?_
      rintro k g w ⟨hk, hK⟩
      have hcl := count_take_le xs k xs[i]
      have hcl2 := count_le_len xs xs[i]
      refine sq <| sq <| rg <| ?_
      refine vl (mvv (v := .int _ _) rfl) <| vl mv <| vl (ln Try.underlying25 rfl hv.len) <| vl (lt rfl rfl) <| nl <| thn <| ?_
      refine cdP rfl (fun h3 => ?_) (fun h3 => ?_)
      · have hcs := count_take_succ (xs := xs) (i := k) (by omega) xs[i]
        refine sk <| thn <| sq <| bk <| sq <| ?_
        refine rgq (fun w => K _ w _ _) Ty.mixed (by kernel_rfl) (hK.drawn _) ?_
        refine qv (fun w hK => mv) <| ?_; refine qv (fun w hK => (mvv (v := .int _ _) rfl)) <| ?_; refine qv (fun w hK => (ixn1 Try.underlying25 Ty.s3 rfl hv.1 rfl (by first | omega | (simp only; omega)))) <| ?_; refine qldV Ty.o3 rfl (hv.at (by first | omega | (simp only; omega))) <| ?_; refine qv (fun w hK => mv) <| ?_; refine qv (fun w hK => (mvv (v := .int _ _) rfl)) <| ?_; refine qv (fun w hK => (ixn1 Try.underlying25 Ty.s3 rfl hv.1 rfl (by first | omega | (simp only; omega)))) <| ?_; refine qldV Ty.o3 rfl (hv.at (by first | omega | (simp only; omega))) <| ?_; refine qv (fun w hK => (eq rfl rfl)) <| ?_; refine qn <| ?_
        intro w hK
        refine thn <| ?_
        refine cdP rfl (fun h4 => ?_) (fun h4 => ?_)
        · refine rg <| ?_
          refine vl (mvv (v := .int _ _) rfl) <| vl (ad rfl rfl (by first | omega | (simp only; omega)) (by first | omega | (simp only; omega))) <| vl (asv (v := .int _ _) rfl) <| nl <| bkn <| thn <| rg <| vl (mvv (v := .int _ _) rfl) <| vl (ad rfl rfl (by first | omega | (simp only; omega)) (by first | omega | (simp only; omega))) <| vl (asv (v := .int _ _) rfl) <| nl <| thn <| ?_
          exact ⟨k + 1, ⟨rfl, rfl, by rw [hcs, if_pos h4]; rfl, rfl, trivial⟩, ⟨by omega, hK⟩, by omega⟩
        · refine sk <| bkn <| thn <| rg <| ?_
          refine vl (mvv (v := .int _ _) rfl) <| vl (ad rfl rfl (by first | omega | (simp only; omega)) (by first | omega | (simp only; omega))) <| vl (asv (v := .int _ _) rfl) <| nl <| thn <| ?_
          exact ⟨k + 1, ⟨rfl, rfl, by rw [hcs, if_neg h4]; rfl, rfl, trivial⟩, ⟨by omega, hK⟩, by omega⟩
      · have hkk : k = xs.length := by omega
        subst hkk
        rw [List.take_length] at hcl ⊢
        refine ex <| the <| the <| bkh <| thn <| sq <| rg <| ?_
        refine vl (mvv (v := .int _ _) rfl) <| vl (ml rfl rfl (by first | omega | (simp only; omega)) (by first | omega | (simp only; omega))) <| vl mv <| vl (ln Try.underlying25 rfl hv.len) <| vl (gt rfl rfl) <| nl <| thn <| ?_
        refine cdP rfl (fun h4 => ?_) (fun h4 => ?_)
        · refine sq <| rg <| ?_
          refine vl mv <| vl (mvv (v := .int _ _) rfl) <| vl (ixn1 Try.underlying25 Ty.s3 rfl hv.1 rfl (by first | omega | (simp only; omega))) <| vl (ldV hK Ty.o3 rfl (hv.at (by first | omega | (simp only; omega)))) <| vl (asv (v := .int _ _) rfl) <| nl <| thn <| rt <| bkr <| thr <| thr <| bkr <| thr <| p1r (a := .int _ _) rfl <| ?_
          exact ⟨⟨_, rfl, .inr ⟨by omega, .inl (by omega)⟩⟩, hK⟩
        · refine sk <| bkn <| thn <| rg <| ?_
          refine vl (mvv (v := .int _ _) rfl) <| vl (ad rfl rfl (by first | omega | (simp only; omega)) (by first | omega | (simp only; omega))) <| vl (asv (v := .int _ _) rfl) <| nl <| thn <| ?_
          refine ⟨i + 1, ⟨rfl, rfl, trivial⟩, ⟨by omega, fun j hj hl => ?_, hK⟩, by omega⟩
          rcases Nat.lt_or_ge j i with h | h
          · exact hn j h hl
          · obtain rfl : j = i := by omega
            omega
    · have h7 : 7 < xs.length := by omega
      refine ex <| the <| the <| bkh <| thn <| sq <| rg <| ?_
      refine vl (asv (v := .int _ _) rfl) <| nl <| thn <| rt <| p1r (a := .int _ _) rfl <| ?_
      exact ⟨⟨_, rfl, .inl ⟨h7, rfl⟩⟩, hK⟩
  · refine gn rfl <| gn rfl <| gn rfl <| vl (pk rfl) <| nl <| thn <| ?_
    refine cdf rfl ?_
    refine ex <| the <| the <| bkh <| thn <| sq <| rg <| ?_
    refine vl (asv (v := .int _ _) rfl) <| nl <| thn <| rt <| p1r (a := .int _ _) rfl <| ?_
    refine ⟨⟨_, rfl, ?_⟩, hK⟩
    by_cases h7 : 7 < xs.length
    · exact .inl ⟨h7, rfl⟩
    · refine .inr ⟨by omega, .inr ⟨rfl, fun a => ?_⟩⟩
      by_cases ha : a ∈ xs
      · obtain ⟨j, hj, rfl⟩ := List.getElem_of_mem ha
        exact hn j (by omega) hj
      · rw [List.count_eq_zero_of_not_mem ha]; omega

theorem implPathsAnswer_c (hK : K e w G L) (hv : IntS G v xs) : Ret Try.prog 16 #[v] w (fun r w' => (∃ s, r = .int .i64 s ∧ Maj xs s) ∧ K e w' G L) := by
  have hle := hv.le
  refine enter1 (args := [v]) Try.func16 rfl rfl rfl rfl ?_
  refine sq <| rg <| ?_
  refine vl (asv (v := .int _ _) rfl) <| nl <| thn <| sq <| sq <| rg <| vl mv <| vl (ln Try.underlying25 rfl hv.len) <| vl (gt rfl rfl) <| nl <| thn <| ?_
  refine cdP rfl (fun h => ?_) (fun h => ?_)
  · refine sq <| rg <| ?_
    refine vl (asv (v := .int _ _) rfl) <| nl <| thn <| rt <| thr <| p1r (a := .int _ _) rfl <| ?_
    exact ⟨⟨_, rfl, .inl ⟨by omega, rfl⟩⟩, hK⟩
  · refine sk <| thn <| sq <| rg <| ?_
    refine mkm hK ?_
    intro b w hK
    refine vl asg <| nl <| thn <| sq <| sq <| rg <| vl mv <| vl (ln Try.underlying25 rfl hv.len) <| vl (mvv (v := .int _ _) rfl) <| nl <| thn <| bk <| ?_
    refine lp (σ := Nat) (fun i => [(0, v), (3, .map (some b)), (10, v), (11, .int .i64 (xs.length : Int)), (12, .int .i64 (i : Int))]) (fun i w => i ≤ xs.length ∧ (∀ a, 2 * (xs.take i).count a ≤ xs.length) ∧ ∃ o l, MI o l ∧ (∀ a, (lkI l a).getD 0 = (((xs.take i).count a : Nat) : Int)) ∧ K e w G ((b, o) :: L)) (fun i => xs.length - i) 0 ⟨rfl, rfl, rfl, rfl, rfl, trivial⟩ ⟨by omega, fun a => by simp, _, [], MI.nil, fun a => by simp [lkI], hK⟩ ?_
    rintro i g w ⟨hi, hn, o, l, hm, hl, hK⟩
    refine sq <| rg <| ?_
    refine vl (lt rfl rfl) <| nl <| thn <| sq <| ?_
    refine cdP rfl (fun hc => ?_) (fun hc => ?_)
    · skip
      refine sk <| thn <| sq <| bk <| sq <| rg <| ?_
      refine vl (ixn1 Try.underlying25 Ty.s3 rfl hv.1 rfl (by first | omega | (simp only; omega))) <| vl (ldV hK Ty.o3 rfl (hv.at (by first | omega | (simp only; omega)))) <| vl (asv (v := .int _ _) rfl) <| nl <| thn <| sq <| rg <| vl mv <| vl (mvv (v := .int _ _) rfl) <| ?_
      have hcl := count_take_le xs i xs[i]
      have hcl2 := count_le_len xs xs[i]
      have hlx := hl xs[i]
      refine vl (lk hK Try.underlying46 Try.underlying3 Ty.i3 rfl rfl 0 rfl hm) ?_
      refine vl (ad rfl rfl (by first | omega | (simp only; omega)) (by first | omega | (simp only; omega))) <| ?_
      refine mu hK Try.underlying46 Try.underlying3 rfl rfl rfl 0 rfl hm ?_
      intro o' w hm' hK
      have hlx' : (lkI (ups l xs[i] ((lkI l xs[i]).getD 0 + 1)) xs[i]).getD 0 = (((xs.take (i + 1)).count xs[i] : Nat) : Int) := by
        rw [lkI_ups, if_pos rfl, count_take_succ (by omega), if_pos rfl]; simp [hlx]
      have hcl3 := count_take_le xs (i + 1) xs[i]
      refine nl <| thn <| sq <| rg <| vl mv <| vl (mvv (v := .int _ _) rfl) <| ?_
      refine vl (lk hK Try.underlying46 Try.underlying3 Ty.i3 rfl rfl 0 rfl hm') ?_
      refine vl (ml rfl rfl (by first | omega | (simp only; omega)) (by first | omega | (simp only; omega))) <| vl mv <| vl (ln Try.underlying25 rfl hv.len) <| vl (gt rfl rfl) <| nl <| thn <| ?_
      refine cdP rfl (fun h4 => ?_) (fun h4 => ?_)
      · refine sq <| rg <| ?_
        refine vl (mvv (v := .int _ _) rfl) <| vl (asv (v := .int _ _) rfl) <| nl <| thn <| rt <| bkr <| thr <| thr <| bkr <| thr <| p1r (a := .int _ _) rfl <| ?_
        exact ⟨⟨_, rfl, .inr ⟨by omega, .inl (by omega)⟩⟩, K.drop1 hK⟩
      · refine sk <| bkn <| thn <| rg <| ?_
        refine vl (ad rfl rfl (by first | omega | (simp only; omega)) (by first | omega | (simp only; omega))) <| vl (mvv (v := .int _ _) rfl) <| nl <| thn <| ?_
        refine ⟨i + 1, ⟨rfl, rfl, rfl, rfl, rfl, trivial⟩, ⟨by omega, fun a => ?_, o', _, hm', fun a => ?_, hK⟩, by omega⟩
        · by_cases ha : xs[i] = a
          · subst ha; omega
          · rw [count_take_succ (by omega), if_neg ha]; exact hn a
        · rw [lkI_ups, count_take_succ (by omega)]
          by_cases ha : a = xs[i]
          · subst ha; simp [hlx]
          · rw [if_neg ha, if_neg (fun h => ha h.symm), hl a]; simp
    · refine ex <| the <| the <| bkh <| thn <| sq <| rg <| ?_
      refine vl (asv (v := .int _ _) rfl) <| nl <| thn <| rt <| p1r (a := .int _ _) rfl <| ?_
      have hii : i = xs.length := by omega
      subst hii
      rw [List.take_length] at hn
      exact ⟨⟨_, rfl, .inr ⟨by omega, .inr ⟨rfl, hn⟩⟩⟩, hK.drop1⟩
end
end Go.Proofs.Ytijkfooafoghjaa
