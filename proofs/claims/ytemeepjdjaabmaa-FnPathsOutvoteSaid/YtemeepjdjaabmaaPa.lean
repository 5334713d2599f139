/- Contracts of the functions on answers and paths. Conditions: those that each row states. -/
import Derived.Test.YtemeepjdjaabmaaIn
import Derived.Test.YtemeepjdjaabmaaMp
import Derived.Test.YtemeepjdjaabmaaPaM
namespace Go.Proofs.Ytemeepjdjaabmaa
open Go Go.Ro

section
variable {e w : World} {G : View} {L : Own} {v u : Value} {xs ys : List Int}

theorem implPathsAnswer_c (hK : K e w G L) (hv : IntS G v xs) : Ret Try.prog 21 #[v] w (fun r w' => (∃ s, r = .int .i64 s ∧ Maj xs s) ∧ K e w' G L) := by
  have hle := hv.le
  refine enter1 (args := [v]) Try.func21 rfl rfl rfl rfl ?_
  refine sq <| rg <| ?_
  refine vl (asv (v := .int _ _) rfl) <| nl <| thn <| sq <| sq <| rg <| vl mv <| vl (ln Try.underlying24 rfl hv.len) <| vl (gt rfl rfl) <| nl <| thn <| ?_
  refine cdP rfl (fun h => ?_) (fun h => ?_)
  · refine sq <| rg <| ?_
    refine vl (asv (v := .int _ _) rfl) <| nl <| thn <| rt <| thr <| p1r (a := .int _ _) rfl <| ?_
    exact ⟨⟨_, rfl, .inl ⟨by omega, rfl⟩⟩, hK⟩
  · refine sk <| thn <| sq <| rg <| ?_
    refine mkm hK ?_
    intro b w hK
    refine vl asg <| nl <| thn <| sq <| sq <| rg <| vl mv <| vl (ln Try.underlying24 rfl hv.len) <| vl (mvv (v := .int _ _) rfl) <| nl <| thn <| bk <| ?_
    refine lp (σ := Nat) (fun i => [(0, v), (3, .map (some b)), (10, v), (11, .int .i64 (xs.length : Int)), (12, .int .i64 (i : Int))]) (fun i w => i ≤ xs.length ∧ (∀ a, 2 * (xs.take i).count a ≤ xs.length) ∧ ∃ o l, MI o l ∧ (∀ a, (lkI l a).getD 0 = (((xs.take i).count a : Nat) : Int)) ∧ K e w G ((b, o) :: L)) (fun i => xs.length - i) 0 ⟨rfl, rfl, rfl, rfl, rfl, trivial⟩ ⟨by omega, fun a => by simp, _, [], MI.nil, fun a => by simp [lkI], hK⟩ ?_
    rintro i g w ⟨hi, hn, o, l, hm, hl, hK⟩
    refine sq <| rg <| ?_
    refine vl (lt rfl rfl) <| nl <| thn <| sq <| ?_
    refine cdP rfl (fun hc => ?_) (fun hc => ?_)
    · skip
      refine sk <| thn <| sq <| bk <| sq <| rg <| ?_
      refine vl (ixn1 Try.underlying24 Ty.s3 rfl hv.1 rfl (by first | omega | (simp only; omega))) <| vl (ldV hK Ty.o3 rfl (hv.at (by first | omega | (simp only; omega)))) <| vl (asv (v := .int _ _) rfl) <| nl <| thn <| sq <| rg <| vl mv <| vl (mvv (v := .int _ _) rfl) <| ?_
      have hcl := count_take_le xs i xs[i]
      have hcl2 := count_le_len xs xs[i]
      have hlx := hl xs[i]
      refine vl (lk hK Try.underlying74 Try.underlying3 Ty.i3 rfl rfl 0 rfl hm) ?_
      refine vl (ad rfl rfl (by first | omega | (simp only; omega)) (by first | omega | (simp only; omega))) <| ?_
      refine mu hK Try.underlying74 Try.underlying3 rfl rfl rfl 0 rfl hm ?_
      intro o' w hm' hK
      have hlx' : (lkI (ups l xs[i] ((lkI l xs[i]).getD 0 + 1)) xs[i]).getD 0 = (((xs.take (i + 1)).count xs[i] : Nat) : Int) := by
        rw [lkI_ups, if_pos rfl, count_take_succ (by omega), if_pos rfl]; simp [hlx]
      have hcl3 := count_take_le xs (i + 1) xs[i]
      refine nl <| thn <| sq <| rg <| vl mv <| vl (mvv (v := .int _ _) rfl) <| ?_
      refine vl (lk hK Try.underlying74 Try.underlying3 Ty.i3 rfl rfl 0 rfl hm') ?_
      refine vl (ml rfl rfl (by first | omega | (simp only; omega)) (by first | omega | (simp only; omega))) <| vl mv <| vl (ln Try.underlying24 rfl hv.len) <| vl (gt rfl rfl) <| nl <| thn <| ?_
      refine cdP rfl (fun h4 => ?_) (fun h4 => ?_)
      · refine sq <| rg <| ?_
        refine vl (mvv (v := .int _ _) rfl) <| vl (asv (v := .int _ _) rfl) <| nl <| thn <| rt <| bkr <| thr <| thr <| bkr <| thr <| p1r (a := .int _ _) rfl <| ?_
        exact ⟨⟨_, rfl, .inr ⟨by omega, .inl (by omega)⟩⟩, K.drop1 hK⟩
      · refine sk <| bkn <| thn <| rg <| ?_
        refine vl (ad rfl rfl (by first | omega | (simp only; omega)) (by first | omega | (simp only; omega))) <| vl (mvv (v := .int _ _) rfl) <| nl <| thn <| ?_
        refine ⟨i + 1, ⟨rfl, rfl, rfl, rfl, rfl, trivial⟩, ⟨by omega, fun a => ?_, o', _, hm', fun a => ?_, hK⟩, by omega⟩
        · by_cases ha : xs[i] = a
          · subst ha; omega
          · rw [count_take_succ (by omega), if_neg ha]; exact hn a
        · rw [lkI_ups, count_take_succ (by omega)]
          by_cases ha : a = xs[i]
          · subst ha; simp [hlx]
          · rw [if_neg ha, if_neg (fun h => ha h.symm), hl a]; simp
    · refine ex <| the <| the <| bkh <| thn <| sq <| rg <| ?_
      refine vl (asv (v := .int _ _) rfl) <| nl <| thn <| rt <| p1r (a := .int _ _) rfl <| ?_
      have hii : i = xs.length := by omega
      subst hii
      rw [List.take_length] at hn
      exact ⟨⟨_, rfl, .inr ⟨by omega, .inr ⟨rfl, hn⟩⟩⟩, hK.drop1⟩
end
end Go.Proofs.Ytemeepjdjaabmaa
