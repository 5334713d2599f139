/- Contracts of the functions on paths. Conditions: those that each row states. -/
import Derived.Test.YtnjijnlckbaggaaIn
import Derived.Test.YtnjijnlckbaggaaSs
import Derived.Test.YtnjijnlckbaggaaPsM
namespace Go.Proofs.Ytnjijnlckbaggaa
open Go Go.Ro

section
variable {e w : World} {G : View} {L : Own} {v u : Value} {xs ys : List Int} {xss yss : List (List Int)}

theorem toIntSS_v (hK : K e w G L) (hv : ISS G v xss) (hl : xss.length ≤ 1048576) (hl' : ∀ xs ∈ xss, xs.length ≤ 1048576) :
    Ret Try.prog 20 #[v] w (fun r w' => ∃ G', VLe G G' ∧ ISS G' r xss ∧ K e w' G' L) := by
  refine enter1 (args := [v]) Try.func20 rfl rfl rfl rfl ?_
  refine sq <| rg <| ?_
  refine vl asg <| nl <| thn <| sq <| rg <| vl mv <| vl (ln Try.underlying30 rfl hv.len) <| ?_
  refine mks hK Try.underlying30 Ty.i36 rfl rfl rfl rfl rfl (by first | omega | (simp only; omega)) rfl ?_
  intro b7 w ho7 hK
  refine vl asg <| nl <| thn <| sq <| sq <| rg <| vl (asv (v := .int _ _) rfl) <| nl <| thn <| bk <| ?_
  rw [List.flatten_replicate_singleton] at hK ho7
  refine lp (σ := Nat × View × List Value) (fun s => [(0, v), (3, .slice (some ⟨b7, 0, none⟩) xss.length xss.length), (4, .int .i64 (s.1 : Int))]) (fun s w => s.1 ≤ xss.length ∧ VLe G s.2.1 ∧ s.2.2.length = s.1 ∧ (∀ j, j < s.1 → ∀ u, s.2.2[j]? = some u → IntS s.2.1 u (xss.getD j [])) ∧ K e w s.2.1 ((b7, row (s.2.2 ++ List.replicate (xss.length - s.1) (.slice none 0 0)) 36) :: L)) (fun s => xss.length - s.1) (0, G, []) ⟨rfl, rfl, rfl, trivial⟩ ⟨Nat.zero_le _, VLe.refl _, rfl, fun j hj => absurd hj (Nat.not_lt_zero _), by simpa using hK⟩ ?_
  rintro ⟨i, G1, us⟩ g w ⟨h1, hG, h2, h3, hK⟩
  simp only at h1 hG h2 h3 hK
  refine sq <| sq <| rg <| ?_
  refine vl (mvv (v := .int _ _) rfl) <| vl mv <| vl (ln Try.underlying30 rfl hv.len) <| vl (lt rfl rfl) <| nl <| thn <| ?_
  refine cdP rfl (fun hc => ?_) (fun hc => ?_)
  · have hi' : i < xss.length := by simp only at hc; omega
    obtain ⟨u, hu, hui⟩ := (hv.mono hG).at hi'
    refine sk <| thn <| sq <| bk <| rg <| ?_
    refine vl mv <| vl (mvv (v := .int _ _) rfl) <| vl mv <| vl (mvv (v := .int _ _) rfl) <| vl (ixn1 Try.underlying30 Ty.s36 rfl hv.1 rfl (by first | omega | (simp only; omega))) <| vl (ldV hK Ty.o36 rfl hu) <| ?_
    refine cl Try.call26 rfl (toIntS_v hK hui (hl' _ (List.getElem_mem hi'))) ?_
    rintro u' w ⟨G2, hG2, hu', hK⟩
    refine vl (ixn1 Try.underlying30 Ty.s36 rfl ho7.slw rfl (by first | omega | (simp only; omega))) <| ?_
    refine soi hK Ty.i36 rfl 0 rfl rfl rfl (by exact SlW.one hu'.1) (by simp; omega) ?_
    intro w hK
    refine nl <| bkn <| thn <| rg <| vl (mvv (v := .int _ _) rfl) <| vl (ad rfl rfl (by first | omega | (simp only; omega)) (by first | omega | (simp only; omega))) <| vl (asv (v := .int _ _) rfl) <| nl <| thn <| ?_
    rw [set_next h2 hi'] at hK
    refine ⟨⟨i + 1, G2, us ++ [u']⟩, ⟨rfl, rfl, rfl, trivial⟩, ⟨hi', hG.trans hG2, by simp [h2], ?_, hK⟩, by simp only; omega⟩
    intro j hj x hx
    rcases Nat.lt_succ_iff_lt_or_eq.1 hj with hj | rfl
    · rw [List.getElem?_append_left (by omega)] at hx
      exact (h3 j hj x hx).mono hG2
    · rw [← h2, List.getElem?_append_right (Nat.le_refl _), Nat.sub_self] at hx
      obtain rfl := Option.some.inj hx
      rw [getD_lt hi']; exact hu'
  · have hi' : i = xss.length := by simp only at hc; omega
    subst hi'
    refine ex <| the <| the <| bkh <| thn <| sq <| rg <| ?_
    refine vl mv <| vl asg <| nl <| thn <| rt <| p1r (a := _) rfl <| ?_
    rw [Nat.sub_self, List.replicate_zero, List.append_nil] at hK
    obtain ⟨G', hG', h4, hK⟩ := K.pubSS (A := [_]) (E := IntS) (xs := xss) (fun hG h => h.mono hG) hK (OS.lit (cs := us) (m := xss.length) (by rw [h2, Nat.mul_one]) (by omega)) (fun j x hj => by
      have hjl := (List.getElem?_eq_some_iff.1 hj).1
      refine ⟨us[j], List.getElem?_eq_getElem (by omega), ?_⟩
      have := h3 j hjl _ (List.getElem?_eq_getElem (by omega))
      rw [mem_getD hjl (List.getElem?_eq_some_iff.1 hj).2] at this
      exact this)
    exact ⟨G', hG.trans hG', h4, hK⟩

theorem eqIntSS_c (hK : K e w G L) (hv : ISS G v xss) (hu : ISS G u yss) :
    Ret Try.prog 22 #[v, u] w (fun r w' => r = .bool (decide (xss = yss)) ∧ K e w' G L) := by
  have hle := hv.le
  refine enter1 (args := [v, u]) Try.func22 rfl rfl rfl rfl ?_
  refine sq <| rg <| ?_
  refine vl (asv (v := .bool _) rfl) <| nl <| thn <| sq <| sq <| rg <| vl mv <| vl (ln Try.underlying30 rfl hv.len) <| vl mv <| vl (ln Try.underlying30 rfl hu.len) <| vl (ne rfl rfl) <| nl <| thn <| ?_
  refine cdP rfl (fun h => ?_) (fun h => ?_)
  · refine sq <| rg <| ?_
    refine vl (asv (v := .bool _) rfl) <| nl <| thn <| rt <| thr <| p1r (a := .bool _) rfl <| ?_
    exact ⟨by rw [decide_eq_false]; rintro rfl; exact h rfl, hK⟩
  · have hlen : xss.length = yss.length := by omega
    refine sk <| thn <| sq <| sq <| rg <| ?_
    refine vl (asv (v := .int _ _) rfl) <| nl <| thn <| bk <| ?_
    refine lp (σ := Nat) (fun i => [(0, v), (1, u), (5, .int .i64 (i : Int))]) (fun i w => i ≤ xss.length ∧ xss.take i = yss.take i ∧ K e w G L) (fun i => xss.length - i) 0 ⟨rfl, rfl, rfl, trivial⟩ ⟨Nat.zero_le _, by simp, hK⟩ ?_
    rintro i g w ⟨hi, ht, hK⟩
    refine sq <| sq <| rg <| ?_
    refine vl (mvv (v := .int _ _) rfl) <| vl mv <| vl (ln Try.underlying30 rfl hv.len) <| vl (lt rfl rfl) <| nl <| thn <| ?_
    refine cdP rfl (fun hc => ?_) (fun hc => ?_)
    · have hi' : i < xss.length := by omega
      obtain ⟨a, ha, hai⟩ := hv.at hi'
      obtain ⟨b, hb, hbi⟩ := hu.at (show i < yss.length by omega)
      refine sk <| thn <| sq <| bk <| sq <| ?_
      refine rgq (fun w => K _ w _ _) Ty.mixed (by kernel_rfl) (hK.drawn _) ?_
      refine qv (fun w hK => mv) <| ?_; refine qv (fun w hK => (mvv (v := .int _ _) rfl)) <| ?_; refine qv (fun w hK => (ixn1 Try.underlying30 Ty.s36 rfl hv.1 rfl (by first | omega | (simp only; omega)))) <| ?_; refine qldV Ty.o36 rfl ha <| ?_; refine qv (fun w hK => mv) <| ?_; refine qv (fun w hK => (mvv (v := .int _ _) rfl)) <| ?_; refine qv (fun w hK => (ixn1 Try.underlying30 Ty.s36 rfl hu.1 rfl (by first | omega | (simp only; omega)))) <| ?_; refine qldV Ty.o36 rfl hb <| ?_
      refine qcl Try.call28 rfl (fun w hK => eqIntS_c hK (by assumption) (by assumption)) ?_
      refine qv (fun w hK => (nt rfl)) <| ?_; refine qn <| ?_
      intro w hK
      refine thn <| ?_
      refine cdB rfl (fun hx => ?_) (fun hx => ?_)
      · refine sq <| rg <| ?_
        refine vl (asv (v := .bool _) rfl) <| nl <| thn <| rt <| bkr <| thr <| thr <| bkr <| thr <| p1r (a := .bool _) rfl <| ?_
        have hx' : ¬ xss[i] = yss[i] := by simpa using hx
        exact ⟨by rw [decide_eq_false]; rintro rfl; exact hx' rfl, hK⟩
      · refine sk <| bkn <| thn <| rg <| ?_
        refine vl (mvv (v := .int _ _) rfl) <| vl (ad rfl rfl (by first | omega | (simp only; omega)) (by first | omega | (simp only; omega))) <| vl (asv (v := .int _ _) rfl) <| nl <| thn <| ?_
        have hx' : xss[i] = yss[i] := by simpa using hx
        exact ⟨i + 1, ⟨rfl, rfl, rfl, trivial⟩, ⟨by omega, by rw [List.take_succ_eq_append_getElem (by omega), List.take_succ_eq_append_getElem (by omega), ht, hx'], hK⟩, by omega⟩
    · refine ex <| the <| the <| bkh <| thn <| sq <| rg <| ?_
      refine vl (asv (v := .bool _) rfl) <| nl <| thn <| rt <| p1r (a := .bool _) rfl <| ?_
      exact ⟨by rw [decide_eq_true]; rw [List.take_of_length_le (by omega), List.take_of_length_le (by omega)] at ht; exact ht, hK⟩

theorem szIntSS_c (hK : K e w G L) (hv : ISS G v xss) {n : Int} (h0 : 0 ≤ n) (h1 : n ≤ 1048576) :
    Ret Try.prog 18 #[v, .int .i64 n] w (fun r w' => (∃ k, r = .int .i64 k ∧ (0 ≤ k → xss.length ≤ 1048576 ∧ ∀ xs ∈ xss, xs.length ≤ 1048576)) ∧ K e w' G L) := by
  have hle := hv.le
  refine enter1 (args := [v, .int .i64 n]) Try.func18 rfl rfl rfl rfl ?_
  refine sq <| rg <| ?_
  refine vl (asv (v := .int _ _) rfl) <| nl <| thn <| sq <| rg <| vl (mvv (v := .int _ _) rfl) <| vl mv <| vl (ln Try.underlying30 rfl hv.len) <| vl (sb rfl rfl (by first | omega | (simp only; omega)) (by first | omega | (simp only; omega))) <| vl (asv (v := .int _ _) rfl) <| nl <| thn <| sq <| sq <| rg <| vl (mvv (v := .int _ _) rfl) <| vl (lt rfl rfl) <| nl <| thn <| ?_
  refine cdP rfl (fun h => ?_) (fun h => ?_)
  · refine sq <| rg <| ?_
    refine vl (asv (v := .int _ _) rfl) <| nl <| thn <| rt <| thr <| p1r (a := .int _ _) rfl <| ?_
    exact ⟨⟨_, rfl, by omega⟩, hK⟩
  · refine sk <| thn <| sq <| sq <| rg <| ?_
    refine vl (asv (v := .int _ _) rfl) <| nl <| thn <| bk <| ?_
    refine lp (σ := Nat × Int) (fun s => [(0, v), (1, .int .i64 s.2), (5, .int .i64 (s.1 : Int))]) (fun s w => s.1 ≤ xss.length ∧ 0 ≤ s.2 ∧ s.2 ≤ 1048576 ∧ (∀ xs ∈ xss.take s.1, xs.length ≤ 1048576) ∧ K e w G L) (fun s => xss.length - s.1) (0, n - xss.length) ⟨rfl, rfl, rfl, trivial⟩ ⟨Nat.zero_le _, by simp only; omega, by simp only; omega, by simp, hK⟩ ?_
    rintro ⟨i, m⟩ g w ⟨hi, hm0, hm1, ha, hK⟩
    simp only at hi hm0 hm1 ha hK
    refine sq <| sq <| rg <| ?_
    refine vl (mvv (v := .int _ _) rfl) <| vl mv <| vl (ln Try.underlying30 rfl hv.len) <| vl (lt rfl rfl) <| nl <| thn <| ?_
    refine cdP rfl (fun hc => ?_) (fun hc => ?_)
    · have hi' : i < xss.length := by simp only at hc; omega
      obtain ⟨u, hu, hui⟩ := hv.at hi'
      refine sk <| thn <| sq <| bk <| sq <| rg <| ?_
      refine vl mv <| vl (mvv (v := .int _ _) rfl) <| vl (ixn1 Try.underlying30 Ty.s36 rfl hv.1 rfl (by first | omega | (simp only; omega))) <| vl (ldV hK Ty.o36 rfl hu) <| vl (mvv (v := .int _ _) rfl) <| ?_
      refine cl Try.call40 rfl (szIntS_c hK hui hm0 hm1) ?_
      rintro _ w ⟨⟨k, rfl, k1, k2, k3⟩, hK⟩
      refine vl (asv (v := .int _ _) rfl) <| nl <| thn <| sq <| rg <| vl (mvv (v := .int _ _) rfl) <| vl (lt rfl rfl) <| nl <| thn <| ?_
      refine cdP rfl (fun hk => ?_) (fun hk => ?_)
      · refine sq <| rg <| ?_
        refine vl (asv (v := .int _ _) rfl) <| nl <| thn <| rt <| bkr <| thr <| thr <| bkr <| thr <| p1r (a := .int _ _) rfl <| ?_
        exact ⟨⟨_, rfl, by omega⟩, hK⟩
      · refine sk <| bkn <| thn <| rg <| ?_
        refine vl (mvv (v := .int _ _) rfl) <| vl (ad rfl rfl (by first | omega | (simp only; omega)) (by first | omega | (simp only; omega))) <| vl (asv (v := .int _ _) rfl) <| nl <| thn <| ?_
        have hu1 := k3 (by omega)
        exact ⟨(i + 1, k), ⟨rfl, rfl, rfl, trivial⟩, ⟨hi', by simp only; omega, by simp only; omega, all_take hi' ha (by omega), hK⟩, by simp only; omega⟩
    · have hi' : i = xss.length := by simp only at hc; omega
      subst hi'
      refine ex <| the <| the <| bkh <| thn <| sq <| rg <| ?_
      refine vl (mvv (v := .int _ _) rfl) <| vl (asv (v := .int _ _) rfl) <| nl <| thn <| rt <| p1r (a := .int _ _) rfl <| ?_
      rw [List.take_length] at ha
      exact ⟨⟨_, rfl, fun _ => ⟨by omega, ha⟩⟩, hK⟩

theorem l32Paths_c (hK : K e w G L) (hv : ISS G v xss) : Ret Try.prog 41 #[v] w (fun r w' => (∃ b, r = .bool b ∧ (b = true ↔ PathsOk xss)) ∧ K e w' G L) := by
  have hle := hv.le
  refine enter1 (args := [v]) Try.func41 rfl rfl rfl rfl ?_
  refine sq <| rg <| ?_
  refine vl (asv (v := .bool _) rfl) <| nl <| thn <| sq <| sq <| rg <| vl (asv (v := .int _ _) rfl) <| nl <| thn <| bk <| ?_
  refine lp (σ := Nat) (fun i => [(0, v), (3, .int .i64 (i : Int))]) (fun i w => i ≤ xss.length ∧ (∀ xs ∈ xss.take i, PathOk xs) ∧ K e w G L) (fun i => xss.length - i) 0 ⟨rfl, rfl, trivial⟩ ⟨Nat.zero_le _, by simp, hK⟩ ?_
  rintro i g w ⟨hi, ha, hK⟩
  refine sq <| sq <| rg <| ?_
  refine vl (mvv (v := .int _ _) rfl) <| vl mv <| vl (ln Try.underlying30 rfl hv.len) <| vl (lt rfl rfl) <| nl <| thn <| ?_
  refine cdP rfl (fun hc => ?_) (fun hc => ?_)
  · have hi' : i < xss.length := by omega
    obtain ⟨u, hu, hui⟩ := hv.at hi'
    have hule := hui.le
    refine sk <| thn <| sq <| bk <| sq <| sq <| rg <| ?_
    refine vl (asv (v := .int _ _) rfl) <| nl <| thn <| bk <| ?_
    refine lp (σ := Nat) (fun k => [(0, v), (3, .int .i64 (i : Int)), (4, .int .i64 (k : Int))]) (fun k w => k ≤ xss[i].length ∧ (∀ x ∈ xss[i].take k, 0 ≤ x ∧ x ≤ 63) ∧ K e w G L) (fun k => xss[i].length - k) 0 ⟨rfl, rfl, rfl, trivial⟩ ⟨Nat.zero_le _, by simp, hK⟩ ?_
    rintro k g w ⟨hk, hb, hK⟩
    refine sq <| sq <| rg <| ?_
    refine vl (mvv (v := .int _ _) rfl) <| vl mv <| vl (mvv (v := .int _ _) rfl) <| vl (ixn1 Try.underlying30 Ty.s36 rfl hv.1 rfl (by first | omega | (simp only; omega))) <| vl (ldV hK Ty.o36 rfl hu) <| vl (ln Try.underlying36 rfl hui.len) <| vl (lt rfl rfl) <| nl <| thn <| ?_
    refine cdP rfl (fun hd => ?_) (fun hd => ?_)
    · have hk' : k < xss[i].length := by omega
      refine sk <| thn <| sq <| bk <| sq <| rg <| ?_
      refine vl mv <| vl (mvv (v := .int _ _) rfl) <| vl (ixn1 Try.underlying30 Ty.s36 rfl hv.1 rfl (by first | omega | (simp only; omega))) <| vl (ldV hK Ty.o36 rfl hu) <| vl (mvv (v := .int _ _) rfl) <| vl (ixn1 Try.underlying36 Ty.s3 rfl hui.1 rfl (by first | omega | (simp only; omega))) <| vl (ldV hK Ty.o3 rfl (hui.at (by first | omega | (simp only; omega)))) <| ?_
      refine cl Try.call34 rfl (l1Point_c (C := fun w => K _ w _ _) hK) ?_
      rintro _ w ⟨rfl, hK⟩
      refine vl (nt rfl) <| nl <| thn <| ?_
      refine cdP rfl (fun hp => ?_) (fun hp => ?_)
      · refine sq <| rg <| ?_
        refine vl (asv (v := .bool _) rfl) <| nl <| thn <| rt <| bkr <| thr <| thr <| bkr <| thr <| bkr <| thr <| thr <| bkr <| thr <| p1r (a := .bool _) rfl <| ?_
        exact ⟨⟨_, rfl, by simp; intro hh; exact hp ((hh.2 _ (List.getElem_mem hi')).2 _ (List.getElem_mem hk'))⟩, hK⟩
      · refine sk <| bkn <| thn <| rg <| ?_
        refine vl (mvv (v := .int _ _) rfl) <| vl (ad rfl rfl (by first | omega | (simp only; omega)) (by first | omega | (simp only; omega))) <| vl (asv (v := .int _ _) rfl) <| nl <| thn <| ?_
        exact ⟨k + 1, ⟨rfl, rfl, rfl, trivial⟩, ⟨hk', all_take hk' hb (Decidable.not_not.1 hp), hK⟩, by omega⟩
    · have hk' : k = xss[i].length := by omega
      subst hk'
      rw [List.take_length] at hb
      refine ex <| the <| the <| bkh <| thn <| sq <| rg <| ?_
      refine vl mv <| vl (mvv (v := .int _ _) rfl) <| vl (ixn1 Try.underlying30 Ty.s36 rfl hv.1 rfl (by first | omega | (simp only; omega))) <| vl (ldV hK Ty.o36 rfl hu) <| vl (ln Try.underlying36 rfl hui.len) <| vl (gt rfl rfl) <| nl <| thn <| ?_
      refine cdP rfl (fun hp => ?_) (fun hp => ?_)
      · refine sq <| rg <| ?_
        refine vl (asv (v := .bool _) rfl) <| nl <| thn <| rt <| bkr <| thr <| thr <| bkr <| thr <| p1r (a := .bool _) rfl <| ?_
        exact ⟨⟨_, rfl, by simp; intro hh; have := (hh.2 _ (List.getElem_mem hi')).1; omega⟩, hK⟩
      · refine sk <| bkn <| thn <| rg <| ?_
        refine vl (mvv (v := .int _ _) rfl) <| vl (ad rfl rfl (by first | omega | (simp only; omega)) (by first | omega | (simp only; omega))) <| vl (asv (v := .int _ _) rfl) <| nl <| thn <| ?_
        exact ⟨i + 1, ⟨rfl, rfl, trivial⟩, ⟨hi', all_take hi' ha ⟨by omega, hb⟩, hK⟩, by omega⟩
  · have hi' : i = xss.length := by omega
    subst hi'
    refine ex <| the <| the <| bkh <| thn <| sq <| rg <| ?_
    refine vl mv <| vl (ln Try.underlying30 rfl hv.len) <| vl (le rfl rfl) <| vl (asv (v := .bool _) rfl) <| nl <| thn <| rt <| p1r (a := .bool _) rfl <| ?_
    rw [List.take_length] at ha
    exact ⟨⟨_, rfl, by simp only [PathsOk, decide_eq_true_eq]; exact ⟨fun h => ⟨by omega, ha⟩, fun h => by have := h.1; omega⟩⟩, hK⟩

theorem positions_c (hK : K e w G L) (hv : IntS G v xs) : Ret Try.prog 52 #[v] w (fun r w' => (∃ b, r = .bool b ∧ (b = true ↔ ∀ x ∈ xs, 0 ≤ x ∧ x ≤ 63)) ∧ K e w' G L) := by
  have hle := hv.le
  refine enter1 (args := [v]) Try.func52 rfl rfl rfl rfl ?_
  refine sq <| rg <| ?_
  refine vl (asv (v := .bool _) rfl) <| nl <| thn <| sq <| sq <| rg <| vl mv <| vl (ln Try.underlying36 rfl hv.len) <| vl (mvv (v := .int _ _) rfl) <| nl <| thn <| bk <| ?_
  refine lp (σ := Nat) (fun i => [(5, v), (6, .int .i64 (xs.length : Int)), (7, .int .i64 (i : Int))]) (fun i w => i ≤ xs.length ∧ (∀ x ∈ xs.take i, 0 ≤ x ∧ x ≤ 63) ∧ K e w G L) (fun i => xs.length - i) 0 ⟨rfl, rfl, rfl, trivial⟩ ⟨Nat.zero_le _, by simp, hK⟩ ?_
  rintro i g w ⟨hi, ha, hK⟩
  refine sq <| rg <| ?_
  refine vl (lt rfl rfl) <| nl <| thn <| sq <| ?_
  refine cdP rfl (fun hc => ?_) (fun hc => ?_)
  · have hi' : i < xs.length := by omega
    refine sk <| thn <| sq <| bk <| sq <| rg <| ?_
    refine vl (ixn1 Try.underlying36 Ty.s3 rfl hv.1 rfl (by first | omega | (simp only; omega))) <| vl (ldV hK Ty.o3 rfl (hv.at (by first | omega | (simp only; omega)))) <| vl (asv (v := .int _ _) rfl) <| nl <| thn <| sq <| rg <| vl (mvv (v := .int _ _) rfl) <| ?_
    refine cl Try.call49 rfl (posok_c (C := fun w => K _ w _ _) hK) ?_
    rintro _ w ⟨rfl, hK⟩
    refine vl (nt rfl) <| nl <| thn <| ?_
    refine cdP rfl (fun hp => ?_) (fun hp => ?_)
    · refine sq <| rg <| ?_
      refine vl (asv (v := .bool _) rfl) <| nl <| thn <| rt <| bkr <| thr <| thr <| bkr <| thr <| p1r (a := .bool _) rfl <| ?_
      exact ⟨⟨_, rfl, by simp; exact ⟨_, List.getElem_mem hi', fun h0 => by omega⟩⟩, hK⟩
    · refine sk <| bkn <| thn <| rg <| ?_
      refine vl (ad rfl rfl (by first | omega | (simp only; omega)) (by first | omega | (simp only; omega))) <| vl (mvv (v := .int _ _) rfl) <| nl <| thn <| ?_
      exact ⟨i + 1, ⟨rfl, rfl, rfl, trivial⟩, ⟨hi', all_take hi' ha (Decidable.not_not.1 hp), hK⟩, by omega⟩
  · have hi' : i = xs.length := by omega
    subst hi'
    refine ex <| the <| the <| bkh <| thn <| sq <| rg <| ?_
    refine vl (asv (v := .bool _) rfl) <| nl <| thn <| rt <| p1r (a := .bool _) rfl <| ?_
    rw [List.take_length] at ha
    exact ⟨⟨_, rfl, by simpa using ha⟩, hK⟩

theorem indexFuncSS_c {F : FuncId} {cap : List Value} {q : List Int → Bool} (hf : ∀ args w, (callFunc F args).run Try.prog w = .ok (.enter F args) w) (hK : K e w G L) (hv : ISS G v xss)
    (hp : ∀ u xs w, IntS G u xs → K e w G L → Ret Try.prog F ([u] ++ cap).toArray w (fun r w' => r = .bool (q xs) ∧ K e w' G L)) :
    Ret Try.prog 55 #[v, .func (.func F) #[] cap.toArray] w (fun r w' => (∃ i, r = .int .i64 i ∧ IdxOf q xss i) ∧ K e w' G L) := by
  have hle := hv.le
  refine enter1 (args := [v, .func (.func F) #[] cap.toArray]) Try.func55 rfl rfl rfl rfl ?_
  refine sq <| rg <| ?_
  refine vl (asv (v := .int _ _) rfl) <| nl <| thn <| sq <| sq <| rg <| vl mv <| vl (ln Try.underlying30 rfl hv.len) <| vl (mvv (v := .int _ _) rfl) <| nl <| thn <| bk <| ?_
  refine lp (σ := Nat) (fun i => [(0, v), (1, .func (.func F) #[] cap.toArray), (7, .int .i64 (xss.length : Int)), (8, .int .i64 (i : Int))]) (fun i w => i ≤ xss.length ∧ (∀ x ∈ xss.take i, q x = false) ∧ K e w G L) (fun i => xss.length - i) 0 ⟨rfl, rfl, rfl, rfl, trivial⟩ ⟨Nat.zero_le _, by simp, hK⟩ ?_
  rintro i g w ⟨hi, ha, hK⟩
  refine sq <| rg <| ?_
  refine vl (lt rfl rfl) <| nl <| thn <| sq <| ?_
  refine cdP rfl (fun hc => ?_) (fun hc => ?_)
  · have hi' : i < xss.length := by omega
    obtain ⟨u, hu, hui⟩ := hv.at hi'
    refine sk <| thn <| sq <| bk <| sq <| rg <| ?_
    refine vl (mvv (v := .int _ _) rfl) <| vl (asv (v := .int _ _) rfl) <| nl <| thn <| sq <| rg <| vl mv <| vl mv <| vl (mvv (v := .int _ _) rfl) <| vl (ixn1 Try.underlying30 Ty.s36 rfl hv.1 rfl (by first | omega | (simp only; omega))) <| vl (ldV hK Ty.o36 rfl hu) <| ?_
    refine cf (cap := cap) (hf) rfl rfl (hp u xss[i] w hui hK) ?_
    rintro _ w ⟨rfl, hK⟩
    refine nl <| thn <| ?_
    refine cdB rfl (fun hq => ?_) (fun hq => ?_)
    · refine sq <| rg <| ?_
      refine vl (mvv (v := .int _ _) rfl) <| vl (asv (v := .int _ _) rfl) <| nl <| thn <| rt <| bkr <| thr <| thr <| bkr <| thr <| p1r (a := .int _ _) rfl <| ?_
      exact ⟨⟨_, rfl, .inr ⟨i, rfl, hi', hq, ha⟩⟩, hK⟩
    · refine sk <| bkn <| thn <| rg <| ?_
      refine vl (ad rfl rfl (by first | omega | (simp only; omega)) (by first | omega | (simp only; omega))) <| vl (mvv (v := .int _ _) rfl) <| nl <| thn <| ?_
      exact ⟨i + 1, ⟨rfl, rfl, rfl, rfl, trivial⟩, ⟨hi', all_take hi' ha (by simpa using hq), hK⟩, by omega⟩
  · have hi' : i = xss.length := by omega
    subst hi'
    refine ex <| the <| the <| bkh <| thn <| sq <| rg <| ?_
    refine vl (asv (v := .int _ _) rfl) <| nl <| thn <| rt <| p1r (a := .int _ _) rfl <| ?_
    rw [List.take_length] at ha
    exact ⟨⟨_, rfl, .inl ⟨rfl, ha⟩⟩, hK⟩

theorem containsFuncSS_c {F : FuncId} {cap : List Value} {q : List Int → Bool} (hf : ∀ args w, (callFunc F args).run Try.prog w = .ok (.enter F args) w) (hK : K e w G L) (hv : ISS G v xss)
    (hp : ∀ u xs w, IntS G u xs → K e w G L → Ret Try.prog F ([u] ++ cap).toArray w (fun r w' => r = .bool (q xs) ∧ K e w' G L)) :
    Ret Try.prog 50 #[v, .func (.func F) #[] cap.toArray] w (fun r w' => (∃ b, r = .bool b ∧ (b = true ↔ ∃ xs ∈ xss, q xs = true)) ∧ K e w' G L) := by
  refine enter1 (args := [v, .func (.func F) #[] cap.toArray]) Try.func50 rfl rfl rfl rfl ?_
  refine sq <| rg <| ?_
  refine vl (asv (v := .bool _) rfl) <| nl <| thn <| sq <| rg <| vl mv <| vl mv <| ?_
  refine cl Try.call55 rfl (indexFuncSS_c hf hK hv hp) ?_
  rintro _ w ⟨⟨i, rfl, hi⟩, hK⟩
  refine vl (ge rfl rfl) <| vl (asv (v := .bool _) rfl) <| nl <| thn <| rt <| p1r (a := .bool _) rfl <| ?_
  exact ⟨⟨_, rfl, by rw [decide_eq_true_eq]; exact hi.ge⟩, hK⟩

theorem pathsOk1_c (hK : K e w G L) (hv : IntS G v xs) : Ret Try.prog 51 #[v] w (fun r w' => (∃ b, r = .bool b ∧ (b = true ↔ ¬ PathOk xs)) ∧ K e w' G L) := by
  have hle := hv.le
  refine enter1 (args := [v]) Try.func51 rfl rfl rfl rfl ?_
  refine sq <| rg <| ?_
  refine vl (asv (v := .bool _) rfl) <| nl <| thn <| sq <| rg <| vl mv <| vl (ln Try.underlying36 rfl hv.len) <| vl (gt rfl rfl) <| vl (mvv (v := .bool _) rfl) <| ?_
  refine splP (t := 6) rfl (fun h => ?_) (fun h => ?_)
  · refine gn rfl <| gn rfl <| gn rfl <| vl (pk rfl) <| vl (asv (v := .bool _) rfl) <| nl <| thn <| rt <| p1r (a := .bool _) rfl <| ?_
    exact ⟨⟨_, rfl, by simp [PathOk]; intro _; omega⟩, hK⟩
  · refine gy rfl <| vl mv <| gy rfl <| ?_
    refine cl Try.call52 rfl (positions_c hK hv) ?_
    rintro _ w ⟨⟨b, rfl, hb⟩, hK⟩
    refine gy rfl <| vl (ntB rfl) <| vl (pk rfl) <| vl (asv (v := .bool _) rfl) <| nl <| thn <| rt <| p1r (a := .bool _) rfl <| ?_
    refine ⟨⟨_, rfl, ?_⟩, hK⟩
    unfold PathOk
    rw [← hb]
    cases b <;> simp <;> omega
theorem pathsOk_c (hK : K e w G L) (hv : ISS G v xss) : Ret Try.prog 43 #[v] w (fun r w' => (∃ b, r = .bool b ∧ (b = true ↔ PathsOk xss)) ∧ K e w' G L) := by
  have hle := hv.le
  refine enter1 (args := [v]) Try.func43 rfl rfl rfl rfl ?_
  refine sq <| rg <| ?_
  refine vl (asv (v := .bool _) rfl) <| nl <| thn <| sq <| rg <| vl mv <| vl (ln Try.underlying30 rfl hv.len) <| vl (le rfl rfl) <| vl (mvv (v := .bool _) rfl) <| ?_
  refine splP (t := 6) rfl (fun h => ?_) (fun h => ?_)
  · refine gy rfl <| vl mv <| gy rfl <| ?_
    refine cl Try.call50 rfl (containsFuncSS_c (cap := []) (q := fun xs => decide (¬ PathOk xs)) Try.call51 hK hv (fun u xs w hu hK => (pathsOk1_c hK hu).mono fun _ _ ⟨⟨b, hr, hb⟩, hK⟩ => ⟨by rw [hr, bool_dec hb], hK⟩)) ?_
    rintro _ w ⟨⟨b, rfl, hb⟩, hK⟩
    refine gy rfl <| vl (ntB rfl) <| vl (pk rfl) <| vl (asv (v := .bool _) rfl) <| nl <| thn <| rt <| p1r (a := .bool _) rfl <| ?_
    refine ⟨⟨_, rfl, ?_⟩, hK⟩
    have h7 : xss.length ≤ 7 := by omega
    simp only [decide_eq_true_eq] at hb
    unfold PathsOk
    cases b
    · simp only [Bool.false_eq_true, false_iff, not_exists, not_and, Decidable.not_not] at hb
      simp; exact ⟨h7, hb⟩
    · obtain ⟨xs, h1, h2⟩ := hb.1 rfl
      simp; exact fun _ => ⟨xs, h1, h2⟩
  · refine gn rfl <| gn rfl <| gn rfl <| vl (pk rfl) <| vl (asv (v := .bool _) rfl) <| nl <| thn <| rt <| p1r (a := .bool _) rfl <| ?_
    exact ⟨⟨_, rfl, by simp [PathsOk]; intro _; omega⟩, hK⟩
end
end Go.Proofs.Ytnjijnlckbaggaa
