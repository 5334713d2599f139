/- Contracts of the functions on paths. Conditions: those that each row states. -/
import Derived.Test.YtemeepjdjaabmaaIn
import Derived.Test.YtemeepjdjaabmaaSs
import Derived.Test.YtemeepjdjaabmaaPsM
namespace Go.Proofs.Ytemeepjdjaabmaa
open Go Go.Ro

section
variable {e w : World} {G : View} {L : Own} {v u : Value} {xs ys : List Int} {xss yss : List (List Int)}

theorem l32Paths_c (hK : K e w G L) (hv : ISS G v xss) : Ret Try.prog 61 #[v] w (fun r w' => (∃ b, r = .bool b ∧ (b = true ↔ PathsOk xss)) ∧ K e w' G L) := by
  have hle := hv.le
  refine enter1 (args := [v]) Try.func61 rfl rfl rfl rfl ?_
  refine sq <| rg <| ?_
  refine vl (asv (v := .bool _) rfl) <| nl <| thn <| sq <| sq <| rg <| vl (asv (v := .int _ _) rfl) <| nl <| thn <| bk <| ?_
  refine lp (σ := Nat) (fun i => [(0, v), (3, .int .i64 (i : Int))]) (fun i w => i ≤ xss.length ∧ (∀ xs ∈ xss.take i, PathOk xs) ∧ K e w G L) (fun i => xss.length - i) 0 ⟨rfl, rfl, trivial⟩ ⟨Nat.zero_le _, by simp, hK⟩ ?_
  rintro i g w ⟨hi, ha, hK⟩
  refine sq <| sq <| rg <| ?_
  refine vl (mvv (v := .int _ _) rfl) <| vl mv <| vl (ln Try.underlying23 rfl hv.len) <| vl (lt rfl rfl) <| nl <| thn <| ?_
  refine cdP rfl (fun hc => ?_) (fun hc => ?_)
  · have hi' : i < xss.length := by omega
    obtain ⟨u, hu, hui⟩ := hv.at hi'
    have hule := hui.le
    refine sk <| thn <| sq <| bk <| sq <| sq <| rg <| ?_
    refine vl (asv (v := .int _ _) rfl) <| nl <| thn <| bk <| ?_
    refine lp (σ := Nat) (fun k => [(0, v), (3, .int .i64 (i : Int)), (4, .int .i64 (k : Int))]) (fun k w => k ≤ xss[i].length ∧ (∀ x ∈ xss[i].take k, 0 ≤ x ∧ x ≤ 63) ∧ K e w G L) (fun k => xss[i].length - k) 0 ⟨rfl, rfl, rfl, trivial⟩ ⟨Nat.zero_le _, by simp, hK⟩ ?_
    rintro k g w ⟨hk, hb, hK⟩
    refine sq <| sq <| rg <| ?_
    refine vl (mvv (v := .int _ _) rfl) <| vl mv <| vl (mvv (v := .int _ _) rfl) <| vl (ixn1 Try.underlying23 Ty.s24 rfl hv.1 rfl (by first | omega | (simp only; omega))) <| vl (ldV hK Ty.o24 rfl hu) <| vl (ln Try.underlying24 rfl hui.len) <| vl (lt rfl rfl) <| nl <| thn <| ?_
    refine cdP rfl (fun hd => ?_) (fun hd => ?_)
    · have hk' : k < xss[i].length := by omega
      refine sk <| thn <| sq <| bk <| sq <| rg <| ?_
      refine vl mv <| vl (mvv (v := .int _ _) rfl) <| vl (ixn1 Try.underlying23 Ty.s24 rfl hv.1 rfl (by first | omega | (simp only; omega))) <| vl (ldV hK Ty.o24 rfl hu) <| vl (mvv (v := .int _ _) rfl) <| vl (ixn1 Try.underlying24 Ty.s3 rfl hui.1 rfl (by first | omega | (simp only; omega))) <| vl (ldV hK Ty.o3 rfl (hui.at (by first | omega | (simp only; omega)))) <| ?_
      refine cl Try.call81 rfl (l1Point_c (C := fun w => K _ w _ _) hK) ?_
      rintro _ w ⟨rfl, hK⟩
      refine vl (nt rfl) <| nl <| thn <| ?_
      refine cdP rfl (fun hp => ?_) (fun hp => ?_)
      · refine sq <| rg <| ?_
        refine vl (asv (v := .bool _) rfl) <| nl <| thn <| rt <| bkr <| thr <| thr <| bkr <| thr <| bkr <| thr <| thr <| bkr <| thr <| p1r (a := .bool _) rfl <| ?_
        exact ⟨⟨_, rfl, by simp; intro hh; exact hp ((hh.2 _ (List.getElem_mem hi')).2 _ (List.getElem_mem hk'))⟩, hK⟩
      · refine sk <| bkn <| thn <| rg <| ?_
        refine vl (mvv (v := .int _ _) rfl) <| vl (ad rfl rfl (by first | omega | (simp only; omega)) (by first | omega | (simp only; omega))) <| vl (asv (v := .int _ _) rfl) <| nl <| thn <| ?_
        exact ⟨k + 1, ⟨rfl, rfl, rfl, trivial⟩, ⟨hk', all_take hk' hb (Decidable.not_not.1 hp), hK⟩, by omega⟩
    · have hk' : k = xss[i].length := by omega
      subst hk'
      rw [List.take_length] at hb
      refine ex <| the <| the <| bkh <| thn <| sq <| rg <| ?_
      refine vl mv <| vl (mvv (v := .int _ _) rfl) <| vl (ixn1 Try.underlying23 Ty.s24 rfl hv.1 rfl (by first | omega | (simp only; omega))) <| vl (ldV hK Ty.o24 rfl hu) <| vl (ln Try.underlying24 rfl hui.len) <| vl (gt rfl rfl) <| nl <| thn <| ?_
      refine cdP rfl (fun hp => ?_) (fun hp => ?_)
      · refine sq <| rg <| ?_
        refine vl (asv (v := .bool _) rfl) <| nl <| thn <| rt <| bkr <| thr <| thr <| bkr <| thr <| p1r (a := .bool _) rfl <| ?_
        exact ⟨⟨_, rfl, by simp; intro hh; have := (hh.2 _ (List.getElem_mem hi')).1; omega⟩, hK⟩
      · refine sk <| bkn <| thn <| rg <| ?_
        refine vl (mvv (v := .int _ _) rfl) <| vl (ad rfl rfl (by first | omega | (simp only; omega)) (by first | omega | (simp only; omega))) <| vl (asv (v := .int _ _) rfl) <| nl <| thn <| ?_
        exact ⟨i + 1, ⟨rfl, rfl, trivial⟩, ⟨hi', all_take hi' ha ⟨by omega, hb⟩, hK⟩, by omega⟩
  · have hi' : i = xss.length := by omega
    subst hi'
    refine ex <| the <| the <| bkh <| thn <| sq <| rg <| ?_
    refine vl mv <| vl (ln Try.underlying23 rfl hv.len) <| vl (le rfl rfl) <| vl (asv (v := .bool _) rfl) <| nl <| thn <| rt <| p1r (a := .bool _) rfl <| ?_
    rw [List.take_length] at ha
    exact ⟨⟨_, rfl, by simp only [PathsOk, decide_eq_true_eq]; exact ⟨fun h => ⟨by omega, ha⟩, fun h => by have := h.1; omega⟩⟩, hK⟩

theorem positions_c (hK : K e w G L) (hv : IntS G v xs) : Ret Try.prog 72 #[v] w (fun r w' => (∃ b, r = .bool b ∧ (b = true ↔ ∀ x ∈ xs, 0 ≤ x ∧ x ≤ 63)) ∧ K e w' G L) := by
  have hle := hv.le
  refine enter1 (args := [v]) Try.func72 rfl rfl rfl rfl ?_
  refine sq <| rg <| ?_
  refine vl (asv (v := .bool _) rfl) <| nl <| thn <| sq <| sq <| rg <| vl mv <| vl (ln Try.underlying24 rfl hv.len) <| vl (mvv (v := .int _ _) rfl) <| nl <| thn <| bk <| ?_
  refine lp (σ := Nat) (fun i => [(5, v), (6, .int .i64 (xs.length : Int)), (7, .int .i64 (i : Int))]) (fun i w => i ≤ xs.length ∧ (∀ x ∈ xs.take i, 0 ≤ x ∧ x ≤ 63) ∧ K e w G L) (fun i => xs.length - i) 0 ⟨rfl, rfl, rfl, trivial⟩ ⟨Nat.zero_le _, by simp, hK⟩ ?_
  rintro i g w ⟨hi, ha, hK⟩
  refine sq <| rg <| ?_
  refine vl (lt rfl rfl) <| nl <| thn <| sq <| ?_
  refine cdP rfl (fun hc => ?_) (fun hc => ?_)
  · have hi' : i < xs.length := by omega
    refine sk <| thn <| sq <| bk <| sq <| rg <| ?_
    refine vl (ixn1 Try.underlying24 Ty.s3 rfl hv.1 rfl (by first | omega | (simp only; omega))) <| vl (ldV hK Ty.o3 rfl (hv.at (by first | omega | (simp only; omega)))) <| vl (asv (v := .int _ _) rfl) <| nl <| thn <| sq <| rg <| vl (mvv (v := .int _ _) rfl) <| ?_
    refine cl Try.call79 rfl (posok_c (C := fun w => K _ w _ _) hK) ?_
    rintro _ w ⟨rfl, hK⟩
    refine vl (nt rfl) <| nl <| thn <| ?_
    refine cdP rfl (fun hp => ?_) (fun hp => ?_)
    · refine sq <| rg <| ?_
      refine vl (asv (v := .bool _) rfl) <| nl <| thn <| rt <| bkr <| thr <| thr <| bkr <| thr <| p1r (a := .bool _) rfl <| ?_
      exact ⟨⟨_, rfl, by simp; exact ⟨_, List.getElem_mem hi', fun h0 => by omega⟩⟩, hK⟩
    · refine sk <| bkn <| thn <| rg <| ?_
      refine vl (ad rfl rfl (by first | omega | (simp only; omega)) (by first | omega | (simp only; omega))) <| vl (mvv (v := .int _ _) rfl) <| nl <| thn <| ?_
      exact ⟨i + 1, ⟨rfl, rfl, rfl, trivial⟩, ⟨hi', all_take hi' ha (Decidable.not_not.1 hp), hK⟩, by omega⟩
  · have hi' : i = xs.length := by omega
    subst hi'
    refine ex <| the <| the <| bkh <| thn <| sq <| rg <| ?_
    refine vl (asv (v := .bool _) rfl) <| nl <| thn <| rt <| p1r (a := .bool _) rfl <| ?_
    rw [List.take_length] at ha
    exact ⟨⟨_, rfl, by simpa using ha⟩, hK⟩

theorem indexFuncSS_c {F : FuncId} {cap : List Value} {q : List Int → Bool} (hf : ∀ args w, (callFunc F args).run Try.prog w = .ok (.enter F args) w) (hK : K e w G L) (hv : ISS G v xss)
    (hp : ∀ u xs w, IntS G u xs → K e w G L → Ret Try.prog F ([u] ++ cap).toArray w (fun r w' => r = .bool (q xs) ∧ K e w' G L)) :
    Ret Try.prog 95 #[v, .func (.func F) #[] cap.toArray] w (fun r w' => (∃ i, r = .int .i64 i ∧ IdxOf q xss i) ∧ K e w' G L) := by
  have hle := hv.le
  refine enter1 (args := [v, .func (.func F) #[] cap.toArray]) Try.func95 rfl rfl rfl rfl ?_
  refine sq <| rg <| ?_
  refine vl (asv (v := .int _ _) rfl) <| nl <| thn <| sq <| sq <| rg <| vl mv <| vl (ln Try.underlying23 rfl hv.len) <| vl (mvv (v := .int _ _) rfl) <| nl <| thn <| bk <| ?_
  refine lp (σ := Nat) (fun i => [(0, v), (1, .func (.func F) #[] cap.toArray), (7, .int .i64 (xss.length : Int)), (8, .int .i64 (i : Int))]) (fun i w => i ≤ xss.length ∧ (∀ x ∈ xss.take i, q x = false) ∧ K e w G L) (fun i => xss.length - i) 0 ⟨rfl, rfl, rfl, rfl, trivial⟩ ⟨Nat.zero_le _, by simp, hK⟩ ?_
  rintro i g w ⟨hi, ha, hK⟩
  refine sq <| rg <| ?_
  refine vl (lt rfl rfl) <| nl <| thn <| sq <| ?_
  refine cdP rfl (fun hc => ?_) (fun hc => ?_)
  · have hi' : i < xss.length := by omega
    obtain ⟨u, hu, hui⟩ := hv.at hi'
    refine sk <| thn <| sq <| bk <| sq <| rg <| ?_
    refine vl (mvv (v := .int _ _) rfl) <| vl (asv (v := .int _ _) rfl) <| nl <| thn <| sq <| rg <| vl mv <| vl mv <| vl (mvv (v := .int _ _) rfl) <| vl (ixn1 Try.underlying23 Ty.s24 rfl hv.1 rfl (by first | omega | (simp only; omega))) <| vl (ldV hK Ty.o24 rfl hu) <| ?_
    refine cf (cap := cap) (hf) rfl rfl (hp u xss[i] w hui hK) ?_
    rintro _ w ⟨rfl, hK⟩
    refine nl <| thn <| ?_
    refine cdB rfl (fun hq => ?_) (fun hq => ?_)
    · refine sq <| rg <| ?_
      refine vl (mvv (v := .int _ _) rfl) <| vl (asv (v := .int _ _) rfl) <| nl <| thn <| rt <| bkr <| thr <| thr <| bkr <| thr <| p1r (a := .int _ _) rfl <| ?_
      exact ⟨⟨_, rfl, .inr ⟨i, rfl, hi', hq, ha⟩⟩, hK⟩
    · refine sk <| bkn <| thn <| rg <| ?_
      refine vl (ad rfl rfl (by first | omega | (simp only; omega)) (by first | omega | (simp only; omega))) <| vl (mvv (v := .int _ _) rfl) <| nl <| thn <| ?_
      exact ⟨i + 1, ⟨rfl, rfl, rfl, rfl, trivial⟩, ⟨hi', all_take hi' ha (by simpa using hq), hK⟩, by omega⟩
  · have hi' : i = xss.length := by omega
    subst hi'
    refine ex <| the <| the <| bkh <| thn <| sq <| rg <| ?_
    refine vl (asv (v := .int _ _) rfl) <| nl <| thn <| rt <| p1r (a := .int _ _) rfl <| ?_
    rw [List.take_length] at ha
    exact ⟨⟨_, rfl, .inl ⟨rfl, ha⟩⟩, hK⟩

theorem containsFuncSS_c {F : FuncId} {cap : List Value} {q : List Int → Bool} (hf : ∀ args w, (callFunc F args).run Try.prog w = .ok (.enter F args) w) (hK : K e w G L) (hv : ISS G v xss)
    (hp : ∀ u xs w, IntS G u xs → K e w G L → Ret Try.prog F ([u] ++ cap).toArray w (fun r w' => r = .bool (q xs) ∧ K e w' G L)) :
    Ret Try.prog 84 #[v, .func (.func F) #[] cap.toArray] w (fun r w' => (∃ b, r = .bool b ∧ (b = true ↔ ∃ xs ∈ xss, q xs = true)) ∧ K e w' G L) := by
  refine enter1 (args := [v, .func (.func F) #[] cap.toArray]) Try.func84 rfl rfl rfl rfl ?_
  refine sq <| rg <| ?_
  refine vl (asv (v := .bool _) rfl) <| nl <| thn <| sq <| rg <| vl mv <| vl mv <| ?_
  refine cl Try.call95 rfl (indexFuncSS_c hf hK hv hp) ?_
  rintro _ w ⟨⟨i, rfl, hi⟩, hK⟩
  refine vl (ge rfl rfl) <| vl (asv (v := .bool _) rfl) <| nl <| thn <| rt <| p1r (a := .bool _) rfl <| ?_
  exact ⟨⟨_, rfl, by rw [decide_eq_true_eq]; exact hi.ge⟩, hK⟩

theorem pathsOk1_c (hK : K e w G L) (hv : IntS G v xs) : Ret Try.prog 85 #[v] w (fun r w' => (∃ b, r = .bool b ∧ (b = true ↔ ¬ PathOk xs)) ∧ K e w' G L) := by
  have hle := hv.le
  refine enter1 (args := [v]) Try.func85 rfl rfl rfl rfl ?_
  refine sq <| rg <| ?_
  refine vl (asv (v := .bool _) rfl) <| nl <| thn <| sq <| rg <| vl mv <| vl (ln Try.underlying24 rfl hv.len) <| vl (gt rfl rfl) <| vl (mvv (v := .bool _) rfl) <| ?_
  refine splP (t := 6) rfl (fun h => ?_) (fun h => ?_)
  · refine gn rfl <| gn rfl <| gn rfl <| vl (pk rfl) <| vl (asv (v := .bool _) rfl) <| nl <| thn <| rt <| p1r (a := .bool _) rfl <| ?_
    exact ⟨⟨_, rfl, by simp [PathOk]; intro _; omega⟩, hK⟩
  · refine gy rfl <| vl mv <| gy rfl <| ?_
    refine cl Try.call72 rfl (positions_c hK hv) ?_
    rintro _ w ⟨⟨b, rfl, hb⟩, hK⟩
    refine gy rfl <| vl (ntB rfl) <| vl (pk rfl) <| vl (asv (v := .bool _) rfl) <| nl <| thn <| rt <| p1r (a := .bool _) rfl <| ?_
    refine ⟨⟨_, rfl, ?_⟩, hK⟩
    unfold PathOk
    rw [← hb]
    cases b <;> simp <;> omega
theorem pathsOk_c (hK : K e w G L) (hv : ISS G v xss) : Ret Try.prog 57 #[v] w (fun r w' => (∃ b, r = .bool b ∧ (b = true ↔ PathsOk xss)) ∧ K e w' G L) := by
  have hle := hv.le
  refine enter1 (args := [v]) Try.func57 rfl rfl rfl rfl ?_
  refine sq <| rg <| ?_
  refine vl (asv (v := .bool _) rfl) <| nl <| thn <| sq <| rg <| vl mv <| vl (ln Try.underlying23 rfl hv.len) <| vl (le rfl rfl) <| vl (mvv (v := .bool _) rfl) <| ?_
  refine splP (t := 6) rfl (fun h => ?_) (fun h => ?_)
  · refine gy rfl <| vl mv <| gy rfl <| ?_
    refine cl Try.call84 rfl (containsFuncSS_c (cap := []) (q := fun xs => decide (¬ PathOk xs)) Try.call85 hK hv (fun u xs w hu hK => (pathsOk1_c hK hu).mono fun _ _ ⟨⟨b, hr, hb⟩, hK⟩ => ⟨by rw [hr, bool_dec hb], hK⟩)) ?_
    rintro _ w ⟨⟨b, rfl, hb⟩, hK⟩
    refine gy rfl <| vl (ntB rfl) <| vl (pk rfl) <| vl (asv (v := .bool _) rfl) <| nl <| thn <| rt <| p1r (a := .bool _) rfl <| ?_
    refine ⟨⟨_, rfl, ?_⟩, hK⟩
    have h7 : xss.length ≤ 7 := by omega
    simp only [decide_eq_true_eq] at hb
    unfold PathsOk
    cases b
    · simp only [Bool.false_eq_true, false_iff, not_exists, not_and, Decidable.not_not] at hb
      simp; exact ⟨h7, hb⟩
    · obtain ⟨xs, h1, h2⟩ := hb.1 rfl
      simp; exact fun _ => ⟨xs, h1, h2⟩
  · refine gn rfl <| gn rfl <| gn rfl <| vl (pk rfl) <| vl (asv (v := .bool _) rfl) <| nl <| thn <| rt <| p1r (a := .bool _) rfl <| ?_
    exact ⟨⟨_, rfl, by simp [PathsOk]; intro _; omega⟩, hK⟩
end
end Go.Proofs.Ytemeepjdjaabmaa
