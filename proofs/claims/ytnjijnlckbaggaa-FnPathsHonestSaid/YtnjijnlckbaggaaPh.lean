/- Contracts of the functions that count honest paths. Conditions: those that each row states. -/
import Derived.Test.YtnjijnlckbaggaaPw
namespace Go.Proofs.Ytnjijnlckbaggaa
open Go Go.Ro

section
variable {e w : World} {G : View} {L : Own} {cva v u : Value} {code xs ys bad : List Int} {xss yss : List (List Int)}

theorem indexFunc_c {F : FuncId} {cap : List Value} {q : Int → Bool} (hf : ∀ args w, (callFunc F args).run Try.prog w = .ok (.enter F args) w) (hK : K e w G L) (hv : IntS G v xs)
    (hp : ∀ x w, K e w G L → Ret Try.prog F ([Value.int .i64 x] ++ cap).toArray w (fun r w' => r = .bool (q x) ∧ K e w' G L)) :
    Ret Try.prog 53 #[v, .func (.func F) #[] cap.toArray] w (fun r w' => (∃ i, r = .int .i64 i ∧ IdxOf q xs i) ∧ K e w' G L) := by
  have hle := hv.le
  refine enter1 (args := [v, .func (.func F) #[] cap.toArray]) Try.func53 rfl rfl rfl rfl ?_
  refine sq <| rg <| ?_
  refine vl (asv (v := .int _ _) rfl) <| nl <| thn <| sq <| sq <| rg <| vl mv <| vl (ln Try.underlying36 rfl hv.len) <| vl (mvv (v := .int _ _) rfl) <| nl <| thn <| bk <| ?_
  refine lp (σ := Nat) (fun i => [(0, v), (1, .func (.func F) #[] cap.toArray), (7, .int .i64 (xs.length : Int)), (8, .int .i64 (i : Int))]) (fun i w => i ≤ xs.length ∧ (∀ x ∈ xs.take i, q x = false) ∧ K e w G L) (fun i => xs.length - i) 0 ⟨rfl, rfl, rfl, rfl, trivial⟩ ⟨Nat.zero_le _, by simp, hK⟩ ?_
  rintro i g w ⟨hi, ha, hK⟩
  refine sq <| rg <| ?_
  refine vl (lt rfl rfl) <| nl <| thn <| sq <| ?_
  refine cdP rfl (fun hc => ?_) (fun hc => ?_)
  · have hi' : i < xs.length := by omega
    refine sk <| thn <| sq <| bk <| sq <| rg <| ?_
    refine vl (mvv (v := .int _ _) rfl) <| vl (asv (v := .int _ _) rfl) <| nl <| thn <| sq <| rg <| vl mv <| vl mv <| vl (mvv (v := .int _ _) rfl) <| vl (ixn1 Try.underlying36 Ty.s3 rfl hv.1 rfl (by first | omega | (simp only; omega))) <| vl (ldV hK Ty.o3 rfl (hv.at (by first | omega | (simp only; omega)))) <| ?_
    refine cf (cap := cap) (hf) rfl rfl (hp xs[i] w hK) ?_
    rintro _ w ⟨rfl, hK⟩
    refine nl <| thn <| ?_
    refine cdB rfl (fun hq => ?_) (fun hq => ?_)
    · refine sq <| rg <| ?_
      refine vl (mvv (v := .int _ _) rfl) <| vl (asv (v := .int _ _) rfl) <| nl <| thn <| rt <| bkr <| thr <| thr <| bkr <| thr <| p1r (a := .int _ _) rfl <| ?_
      exact ⟨⟨_, rfl, .inr ⟨i, rfl, hi', hq, ha⟩⟩, hK⟩
    · refine sk <| bkn <| thn <| rg <| ?_
      refine vl (ad rfl rfl (by first | omega | (simp only; omega)) (by first | omega | (simp only; omega))) <| vl (mvv (v := .int _ _) rfl) <| nl <| thn <| ?_
      exact ⟨i + 1, ⟨rfl, rfl, rfl, rfl, trivial⟩, ⟨hi', all_take hi' ha (by simpa using hq), hK⟩, by omega⟩
  · have hi' : i = xs.length := by omega
    subst hi'
    refine ex <| the <| the <| bkh <| thn <| sq <| rg <| ?_
    refine vl (asv (v := .int _ _) rfl) <| nl <| thn <| rt <| p1r (a := .int _ _) rfl <| ?_
    rw [List.take_length] at ha
    exact ⟨⟨_, rfl, .inl ⟨rfl, ha⟩⟩, hK⟩

theorem containsFunc_c {F : FuncId} {cap : List Value} {q : Int → Bool} (hf : ∀ args w, (callFunc F args).run Try.prog w = .ok (.enter F args) w) (hK : K e w G L) (hv : IntS G v xs)
    (hp : ∀ x w, K e w G L → Ret Try.prog F ([Value.int .i64 x] ++ cap).toArray w (fun r w' => r = .bool (q x) ∧ K e w' G L)) :
    Ret Try.prog 45 #[v, .func (.func F) #[] cap.toArray] w (fun r w' => (∃ b, r = .bool b ∧ (b = true ↔ ∃ x ∈ xs, q x = true)) ∧ K e w' G L) := by
  refine enter1 (args := [v, .func (.func F) #[] cap.toArray]) Try.func45 rfl rfl rfl rfl ?_
  refine sq <| rg <| ?_
  refine vl (asv (v := .bool _) rfl) <| nl <| thn <| sq <| rg <| vl mv <| vl mv <| ?_
  refine cl Try.call53 rfl (indexFunc_c hf hK hv hp) ?_
  rintro _ w ⟨⟨i, rfl, hi⟩, hK⟩
  refine vl (ge rfl rfl) <| vl (asv (v := .bool _) rfl) <| nl <| thn <| rt <| p1r (a := .bool _) rfl <| ?_
  exact ⟨⟨_, rfl, by rw [decide_eq_true_eq]; exact hi.ge⟩, hK⟩

theorem index_c (hK : K e w G L) (hv : IntS G v xs) {n : Int} :
    Ret Try.prog 54 #[v, .int .i64 n] w (fun r w' => (∃ i, r = .int .i64 i ∧ IdxOf (fun x => decide (n = x)) xs i) ∧ K e w' G L) := by
  have hle := hv.le
  refine enter1 (args := [v, .int .i64 n]) Try.func54 rfl rfl rfl rfl ?_
  refine sq <| rg <| ?_
  refine vl (asv (v := .int _ _) rfl) <| nl <| thn <| sq <| sq <| rg <| vl mv <| vl (ln Try.underlying36 rfl hv.len) <| vl (mvv (v := .int _ _) rfl) <| nl <| thn <| bk <| ?_
  refine lp (σ := Nat) (fun i => [(0, v), (1, .int .i64 n), (7, .int .i64 (xs.length : Int)), (8, .int .i64 (i : Int))]) (fun i w => i ≤ xs.length ∧ (∀ x ∈ xs.take i, decide (n = x) = false) ∧ K e w G L) (fun i => xs.length - i) 0 ⟨rfl, rfl, rfl, rfl, trivial⟩ ⟨Nat.zero_le _, by simp, hK⟩ ?_
  rintro i g w ⟨hi, ha, hK⟩
  refine sq <| rg <| ?_
  refine vl (lt rfl rfl) <| nl <| thn <| sq <| ?_
  refine cdP rfl (fun hc => ?_) (fun hc => ?_)
  · have hi' : i < xs.length := by omega
    refine sk <| thn <| sq <| bk <| sq <| rg <| ?_
    refine vl (mvv (v := .int _ _) rfl) <| vl (asv (v := .int _ _) rfl) <| nl <| thn <| sq <| rg <| vl (mvv (v := .int _ _) rfl) <| vl mv <| vl (mvv (v := .int _ _) rfl) <| vl (ixn1 Try.underlying36 Ty.s3 rfl hv.1 rfl (by first | omega | (simp only; omega))) <| vl (ldV hK Ty.o3 rfl (hv.at (by first | omega | (simp only; omega)))) <| vl (eq rfl rfl) <| nl <| thn <| ?_
    refine cdP rfl (fun hq => ?_) (fun hq => ?_)
    · refine sq <| rg <| ?_
      refine vl (mvv (v := .int _ _) rfl) <| vl (asv (v := .int _ _) rfl) <| nl <| thn <| rt <| bkr <| thr <| thr <| bkr <| thr <| p1r (a := .int _ _) rfl <| ?_
      exact ⟨⟨_, rfl, .inr ⟨i, rfl, hi', decide_eq_true hq, ha⟩⟩, hK⟩
    · refine sk <| bkn <| thn <| rg <| ?_
      refine vl (ad rfl rfl (by first | omega | (simp only; omega)) (by first | omega | (simp only; omega))) <| vl (mvv (v := .int _ _) rfl) <| nl <| thn <| ?_
      exact ⟨i + 1, ⟨rfl, rfl, rfl, rfl, trivial⟩, ⟨hi', all_take hi' ha (decide_eq_false hq), hK⟩, by omega⟩
  · have hi' : i = xs.length := by omega
    subst hi'
    refine ex <| the <| the <| bkh <| thn <| sq <| rg <| ?_
    refine vl (asv (v := .int _ _) rfl) <| nl <| thn <| rt <| p1r (a := .int _ _) rfl <| ?_
    rw [List.take_length] at ha
    exact ⟨⟨_, rfl, .inl ⟨rfl, ha⟩⟩, hK⟩

theorem contains_c (hK : K e w G L) (hv : IntS G v xs) {n : Int} :
    Ret Try.prog 47 #[v, .int .i64 n] w (fun r w' => r = .bool (decide (n ∈ xs)) ∧ K e w' G L) := by
  refine enter1 (args := [v, .int .i64 n]) Try.func47 rfl rfl rfl rfl ?_
  refine sq <| rg <| ?_
  refine vl (asv (v := .bool _) rfl) <| nl <| thn <| sq <| rg <| vl mv <| vl (mvv (v := .int _ _) rfl) <| ?_
  refine cl Try.call54 rfl (index_c hK hv) ?_
  rintro _ w ⟨⟨i, rfl, hi⟩, hK⟩
  refine vl (ge rfl rfl) <| vl (asv (v := .bool _) rfl) <| nl <| thn <| rt <| p1r (a := .bool _) rfl <| ?_
  refine ⟨?_, hK⟩
  have := hi.ge
  congr 1
  by_cases h : n ∈ xs
  · rw [decide_eq_true h, decide_eq_true (this.2 ⟨n, h, by simp⟩)]
  · rw [decide_eq_false h, decide_eq_false (fun h' => by obtain ⟨x, h1, h2⟩ := this.1 h'; simp at h2; subst h2; exact h h1)]

theorem honest1_c {b1 : Nat} {bv : Value} (hK : K e w G ((b1, row [bv] 36) :: L)) (hb : IntS G bv bad) {n : Int} :
    Ret Try.prog 46 #[.int .i64 n, .pointer (some ⟨b1, 0, none⟩)] w (fun r w' => r = .bool (decide (n ∈ bad)) ∧ K e w' G ((b1, row [bv] 36) :: L)) := by
  refine enter1 (args := [.int .i64 n, .pointer (some ⟨b1, 0, none⟩)]) Try.func46 rfl rfl rfl rfl ?_
  refine sq <| rg <| ?_
  refine vl (asv (v := .bool _) rfl) <| nl <| thn <| sq <| rg <| vl (ldO hK Ty.o36 0 rfl rfl rfl) <| vl (mvv (v := .int _ _) rfl) <| ?_
  refine cl Try.call47 rfl (contains_c hK hb) ?_
  rintro _ w ⟨rfl, hK⟩
  refine vl (asv (v := .bool _) rfl) <| nl <| thn <| rt <| p1r (a := .bool _) rfl <| ?_
  exact ⟨rfl, hK⟩

theorem implPathsHonest_c {bv : Value} (hK : K e w G L) (hv : ISS G v xss) (hb : IntS G bv bad) :
    Ret Try.prog 27 #[v, bv] w (fun r w' => r = .int .i64 (honest xss bad) ∧ K e w' G L) := by
  have hle := hv.le
  refine enter1 (args := [v, bv]) Try.func27 rfl rfl rfl rfl ?_
  refine sq <| rg <| ?_
  refine bx1 hK rfl (by exact SlW.one hb.1) ?_
  intro b3 w hK
  refine vl (asv (v := .int _ _) rfl) <| nl <| thn <| sq <| sq <| rg <| vl mv <| ?_
  refine cl Try.call43 rfl (pathsOk_c hK hv) ?_
  rintro _ w ⟨⟨b, rfl, hb0⟩, hK⟩
  refine vl (ntB rfl) <| nl <| thn <| ?_
  refine cdB rfl (fun hx => ?_) (fun hx => ?_)
  · have hno : ¬ PathsOk xss := fun h => by rw [hb0.2 h] at hx; cases hx
    refine sq <| rg <| ?_
    refine vl (asv (v := .int _ _) rfl) <| nl <| thn <| rt <| thr <| p1r (a := .int _ _) rfl <| ?_
    exact ⟨by rw [honest, if_neg hno], K.drop1 hK⟩
  · have hok : PathsOk xss := hb0.1 (by simpa using hx)
    refine sk <| thn <| sq <| rg <| ?_
    refine vl (asv (v := .int _ _) rfl) <| nl <| thn <| sq <| sq <| rg <| vl mv <| vl (ln Try.underlying30 rfl hv.len) <| vl (mvv (v := .int _ _) rfl) <| nl <| thn <| bk <| ?_
    refine lp (σ := Nat) (fun i => [(3, .pointer (some ⟨b3, 0, none⟩)), (5, .int .i64 (((xss.take i).countP (clean bad) : Nat) : Int)), (11, v), (12, .int .i64 (xss.length : Int)), (13, .int .i64 (i : Int))]) (fun i w => i ≤ xss.length ∧ K e w G ((b3, row [bv] 36) :: L)) (fun i => xss.length - i) 0 ⟨rfl, rfl, rfl, rfl, rfl, trivial⟩ ⟨Nat.zero_le _, hK⟩ ?_
    rintro i g w ⟨hi, hK⟩
    have hcp := countP_take_le (p := clean bad) xss i
    refine sq <| rg <| ?_
    refine vl (lt rfl rfl) <| nl <| thn <| sq <| ?_
    refine cdP rfl (fun hc => ?_) (fun hc => ?_)
    · have hi' : i < xss.length := by omega
      obtain ⟨u, hu, hui⟩ := hv.at hi'
      have hs := countP_take_succ (p := clean bad) hi'
      refine sk <| thn <| sq <| bk <| sq <| rg <| ?_
      refine vl (ixn1 Try.underlying30 Ty.s36 rfl hv.1 rfl (by first | omega | (simp only; omega))) <| vl (ldV hK Ty.o36 rfl hu) <| vl asg <| nl <| thn <| sq <| rg <| vl mv <| vl (mkf rfl) <| ?_
      refine cl Try.call45 rfl (containsFunc_c (cap := [.pointer (some ⟨b3, 0, none⟩)]) (q := fun x => decide (x ∈ bad)) Try.call46 hK hui (fun x w hK => honest1_c hK hb)) ?_
      rintro _ w ⟨⟨b, rfl, hb1⟩, hK⟩
      rw [clean_any] at hb1
      refine vl (ntB rfl) <| nl <| thn <| ?_
      refine cdB rfl (fun hq => ?_) (fun hq => ?_)
      · have hcl : clean bad xss[i] = true := by
          cases hcc : clean bad xss[i]
          · rw [hb1.2 hcc] at hq; cases hq
          · rfl
        rw [hcl] at hs
        refine rg <| ?_
        refine vl (mvv (v := .int _ _) rfl) <| vl (ad rfl rfl (by first | omega | (simp only; omega)) (by first | omega | (simp only; omega))) <| vl (asv (v := .int _ _) rfl) <| nl <| bkn <| thn <| rg <| vl (ad rfl rfl (by first | omega | (simp only; omega)) (by first | omega | (simp only; omega))) <| vl (mvv (v := .int _ _) rfl) <| nl <| thn <| ?_
        exact ⟨i + 1, ⟨rfl, by rw [hs]; rfl, rfl, rfl, rfl, trivial⟩, ⟨hi', hK⟩, by omega⟩
      · have hcl : clean bad xss[i] = false := hb1.1 (by simpa using hq)
        rw [hcl] at hs
        refine sk <| bkn <| thn <| rg <| ?_
        refine vl (ad rfl rfl (by first | omega | (simp only; omega)) (by first | omega | (simp only; omega))) <| vl (mvv (v := .int _ _) rfl) <| nl <| thn <| ?_
        exact ⟨i + 1, ⟨rfl, by rw [hs]; rfl, rfl, rfl, rfl, trivial⟩, ⟨hi', hK⟩, by omega⟩
    · have hi' : i = xss.length := by omega
      subst hi'
      refine ex <| the <| the <| bkh <| thn <| sq <| rg <| ?_
      refine vl (mvv (v := .int _ _) rfl) <| vl (asv (v := .int _ _) rfl) <| nl <| thn <| rt <| p1r (a := .int _ _) rfl <| ?_
      exact ⟨by rw [honest, if_pos hok, List.take_length], K.drop1 hK⟩

theorem specPathsHonest_c {bv : Value} (hK : K e w G L) (hv : ISS G v xss) (hb : IntS G bv bad) :
    Ret Try.prog 25 #[v, bv] w (fun r w' => r = .int .i64 (honest xss bad) ∧ K e w' G L) := by
  have hle := hv.le
  refine enter1 (args := [v, bv]) Try.func25 rfl rfl rfl rfl ?_
  refine sq <| rg <| ?_
  refine vl (asv (v := .int _ _) rfl) <| nl <| thn <| sq <| sq <| rg <| vl mv <| ?_
  refine cl Try.call41 rfl (l32Paths_c hK hv) ?_
  rintro _ w ⟨⟨b, rfl, hb0⟩, hK⟩
  refine vl (ntB rfl) <| nl <| thn <| ?_
  refine cdB rfl (fun hx => ?_) (fun hx => ?_)
  · have hno : ¬ PathsOk xss := fun h => by rw [hb0.2 h] at hx; cases hx
    refine sq <| rg <| ?_
    refine vl (asv (v := .int _ _) rfl) <| nl <| thn <| rt <| thr <| p1r (a := .int _ _) rfl <| ?_
    exact ⟨by rw [honest, if_neg hno], hK⟩
  · have hok : PathsOk xss := hb0.1 (by simpa using hx)
    refine sk <| thn <| sq <| rg <| ?_
    refine vl (asv (v := .int _ _) rfl) <| nl <| thn <| sq <| sq <| rg <| vl (asv (v := .int _ _) rfl) <| nl <| thn <| bk <| ?_
    refine lp (σ := Nat) (fun i => [(0, v), (1, bv), (5, .int .i64 (((xss.take i).countP (clean bad) : Nat) : Int)), (6, .int .i64 (i : Int))]) (fun i w => i ≤ xss.length ∧ K e w G L) (fun i => xss.length - i) 0 ⟨rfl, rfl, rfl, rfl, trivial⟩ ⟨Nat.zero_le _, hK⟩ ?_
    rintro i g w ⟨hi, hK⟩
    have hcp := countP_take_le (p := clean bad) xss i
    refine sq <| sq <| rg <| ?_
    refine vl (mvv (v := .int _ _) rfl) <| vl mv <| vl (ln Try.underlying30 rfl hv.len) <| vl (lt rfl rfl) <| nl <| thn <| ?_
    refine cdP rfl (fun hc => ?_) (fun hc => ?_)
    · have hi' : i < xss.length := by omega
      obtain ⟨u, hu, hui⟩ := hv.at hi'
      have hs := countP_take_succ (p := clean bad) hi'
      have hule := hui.le
      refine sk <| thn <| sq <| bk <| sq <| rg <| ?_
      refine vl (asv (v := .int _ _) rfl) <| nl <| thn <| sq <| sq <| rg <| vl (asv (v := .int _ _) rfl) <| nl <| thn <| bk <| ?_
      refine lp (σ := Nat) (fun k => [(0, v), (1, bv), (5, .int .i64 (((xss.take i).countP (clean bad) : Nat) : Int)), (6, .int .i64 (i : Int)), (7, .int .i64 (if clean bad (xss[i].take k) then 1 else 0)), (8, .int .i64 (k : Int))]) (fun k w => k ≤ xss[i].length ∧ K e w G L) (fun k => xss[i].length - k) 0 ⟨rfl, rfl, rfl, rfl, rfl, rfl, trivial⟩ ⟨Nat.zero_le _, hK⟩ ?_
      rintro k g w ⟨hk, hK⟩
      refine sq <| sq <| rg <| ?_
      refine vl (mvv (v := .int _ _) rfl) <| vl mv <| vl (mvv (v := .int _ _) rfl) <| vl (ixn1 Try.underlying30 Ty.s36 rfl hv.1 rfl (by first | omega | (simp only; omega))) <| vl (ldV hK Ty.o36 rfl hu) <| vl (ln Try.underlying36 rfl hui.len) <| vl (lt rfl rfl) <| nl <| thn <| ?_
      refine cdP rfl (fun hd => ?_) (fun hd => ?_)
      · have hk' : k < xss[i].length := by omega
        have hcs := clean_take_succ (bad := bad) hk'
        refine sk <| thn <| sq <| bk <| sq <| rg <| ?_
        refine vl mv <| vl mv <| vl (mvv (v := .int _ _) rfl) <| vl (ixn1 Try.underlying30 Ty.s36 rfl hv.1 rfl (by first | omega | (simp only; omega))) <| vl (ldV hK Ty.o36 rfl hu) <| vl (mvv (v := .int _ _) rfl) <| vl (ixn1 Try.underlying36 Ty.s3 rfl hui.1 rfl (by first | omega | (simp only; omega))) <| vl (ldV hK Ty.o3 rfl (hui.at (by first | omega | (simp only; omega)))) <| ?_
        refine cl Try.call42 rfl (l1Has_c hK (by assumption)) ?_
        rintro _ w ⟨rfl, hK⟩
        refine nl <| thn <| ?_
        refine cdP rfl (fun hm => ?_) (fun hm => ?_)
        · refine rg <| ?_
          refine vl (asv (v := .int _ _) rfl) <| nl <| bkn <| thn <| rg <| vl (mvv (v := .int _ _) rfl) <| vl (ad rfl rfl (by first | omega | (simp only; omega)) (by first | omega | (simp only; omega))) <| vl (asv (v := .int _ _) rfl) <| nl <| thn <| ?_
          exact ⟨k + 1, ⟨rfl, rfl, rfl, rfl, by rw [hcs, decide_eq_false (p := xss[i][k] ∉ bad) (fun h => h hm), Bool.and_false]; rfl, rfl, trivial⟩, ⟨hk', hK⟩, by omega⟩
        · refine sk <| bkn <| thn <| rg <| ?_
          refine vl (mvv (v := .int _ _) rfl) <| vl (ad rfl rfl (by first | omega | (simp only; omega)) (by first | omega | (simp only; omega))) <| vl (asv (v := .int _ _) rfl) <| nl <| thn <| ?_
          exact ⟨k + 1, ⟨rfl, rfl, rfl, rfl, by rw [hcs, decide_eq_true (p := xss[i][k] ∉ bad) hm, Bool.and_true]; rfl, rfl, trivial⟩, ⟨hk', hK⟩, by omega⟩
      · have hk' : k = xss[i].length := by omega
        subst hk'
        refine ex <| the <| the <| bkh <| thn <| rg <| ?_
        refine vl (mvv (v := .int _ _) rfl) <| vl (mvv (v := .int _ _) rfl) <| vl (ad rfl rfl (by split <;> omega) (by split <;> omega)) <| vl (asv (v := .int _ _) rfl) <| nl <| bkn <| thn <| rg <| vl (mvv (v := .int _ _) rfl) <| vl (ad rfl rfl (by first | omega | (simp only; omega)) (by first | omega | (simp only; omega))) <| vl (asv (v := .int _ _) rfl) <| nl <| thn <| ?_
        rw [List.take_length]
        refine ⟨i + 1, ⟨rfl, rfl, ?_, rfl, trivial⟩, ⟨hi', hK⟩, by omega⟩
        rw [hs]
        cases clean bad xss[i] <;> rfl
    · have hi' : i = xss.length := by omega
      subst hi'
      refine ex <| the <| the <| bkh <| thn <| sq <| rg <| ?_
      refine vl (mvv (v := .int _ _) rfl) <| vl (asv (v := .int _ _) rfl) <| nl <| thn <| rt <| p1r (a := .int _ _) rfl <| ?_
      exact ⟨by rw [honest, if_pos hok, List.take_length], hK⟩

theorem DrawPathsHonest_c (hK : K e w G L) (hc : BytS G cva code) :
    Ret Try.prog 29 #[cva] w (fun r w' => ∃ G' v xss bv bad, r = .tuple [v, bv].toArray ∧ VLe G G' ∧ ISS G' v xss ∧ IntS G' bv bad ∧ xss.length ≤ 9 ∧ K e w' G' L) := by
  refine enter2 (args := [cva]) Try.func29 rfl rfl rfl rfl ?_
  refine sq <| rg <| ?_
  refine vl asg <| vl asg <| nl <| thn <| sq <| rg <| vl mv <| ?_
  refine cl Try.call31 rfl (l6Open_c hK hc) ?_
  rintro _ w ⟨rb, cvb, code, rfl, hcode, hlen, hK⟩
  refine vl asg <| nl <| thn <| sq <| rg <| vl mv <| ?_
  refine cl Try.call44 rfl (l92Paths_c hK hcode hlen (by first | omega | (simp only; omega)) (by first | omega | (simp only; omega))) ?_
  rintro v w ⟨G1, xss, p1, hG1, hv, h9, hp0, hp1, hK⟩
  replace hcode := hcode.mono hG1
  refine vl asg <| nl <| thn <| sq <| rg <| ?_
  refine bs0 hK Try.underlying36 Ty.i3 ?_
  intro b12 w hK
  refine vl asg <| nl <| thn <| sq <| sq <| rg <| vl (asv (v := .int _ _) rfl) <| nl <| thn <| bk <| ?_
  refine lp (σ := Nat × Int × Value × List Int × Own) (fun s => [(4, .pointer (some ⟨rb, 0, none⟩)), (5, v), (6, s.2.2.1), (7, .int .i64 (s.1 : Int))]) (fun s w => s.1 ≤ 5 ∧ 0 ≤ s.2.1 ∧ s.2.1 ≤ 3000 + 2 * s.1 ∧ s.2.2.2.1.length = s.1 ∧ OS 1 3 s.2.2.1 s.1 (ints s.2.2.2.1) s.2.2.2.2 ∧ K e w G1 ((rb, row [cvb, .int .i64 s.2.1] 61) :: (s.2.2.2.2 ++ L))) (fun s => 5 - s.1) (0, p1, .slice (some ⟨b12, 0, none⟩) 0 0, [], [(b12, row [] 3)]) ⟨rfl, rfl, rfl, rfl, trivial⟩ ⟨Nat.zero_le _, hp0, hp1, rfl, OS.lit rfl (Nat.zero_le _), K.mid1 (B := [_]) hK⟩ ?_
  rintro ⟨i, p, bv, xs, A⟩ g w ⟨h1, h2, h3, h4, ho, hK⟩
  simp only at h1 h2 h3 h4 ho hK
  refine sq <| sq <| rg <| ?_
  refine vl (mvv (v := .int _ _) rfl) <| vl mv <| ?_
  refine cl Try.call33 rfl (pickN_c hK hcode hlen (by first | omega | (simp only; omega)) (by first | omega | (simp only; omega)) (by first | omega | (simp only; omega))) ?_
  rintro _ w ⟨⟨k15, rfl, hk15, hkn15⟩, hK⟩
  refine vl (lt rfl rfl) <| nl <| thn <| ?_
  refine cdP rfl (fun hlt => ?_) (fun hlt => ?_)
  · refine sk <| thn <| sq <| bk <| rg <| ?_
    refine vl mv <| vl mv <| ?_
    refine cl Try.call33 rfl (pickN_c hK hcode hlen (by first | omega | (simp only; omega)) (by first | omega | (simp only; omega)) (by first | omega | (simp only; omega))) ?_
    rintro _ w ⟨⟨k21, rfl, hk21, hkn21⟩, hK⟩
    refine bsN [.tmp 21] hK Try.underlying36 Ty.i3 rfl rfl rfl rfl rfl rfl rfl rfl ?_
    intro b22 w hK
    replace hK := hK.perm (List.perm_middle.cons _)
    refine ap1 (news := [.int .i64 k21]) hK Try.underlying36 Ty.i3 rfl rfl rfl ho rfl rfl rfl (by first | omega | (simp only; omega)) fun v' A' w ho' hK => ?_
    refine vl asg <| nl <| bkn <| thn <| rg <| vl (mvv (v := .int _ _) rfl) <| vl (ad rfl rfl (by first | omega | (simp only; omega)) (by first | omega | (simp only; omega))) <| vl (asv (v := .int _ _) rfl) <| nl <| thn <| ?_
    refine ⟨⟨i + 1, p + 1 + 1, v', xs ++ [k21], A'⟩, ⟨rfl, rfl, rfl, rfl, trivial⟩, ⟨by omega, ?_, ?_, by simp [h4], by simpa [ints] using ho', K.back1 hK⟩, by simp only; omega⟩
    · show 0 ≤ p + 1 + 1; omega
    · show p + 1 + 1 ≤ 3000 + 2 * ((i + 1 : Nat) : Int); omega
  · refine ex <| the <| the <| bkh <| thn <| sq <| rg <| ?_
    refine vl mv <| vl mv <| vl asg <| vl asg <| nl <| thn <| rt <| p2r (a := _) (b := _) rfl rfl <| ?_
    obtain ⟨G2, hG2, hx, hK⟩ := (K.drop1 hK).pubO (h4 ▸ ho)
    exact ⟨G2, v, xss, bv, xs, rfl, hG1.trans hG2, hv.mono hG2, hx, h9, hK⟩

theorem FnExactPathsHonest_c {bv : Value} (hK : K e w G L) (hv : ISS G v xss) (hb : IntS G bv bad) : Ret Try.prog 8 #[v, bv] w (fun r w' => r = .bool true ∧ ∃ G' L', K e w' G' L' ∧ VLe G G') := by
  have hble := hb.le
  refine enter1 (args := [v, bv]) Try.func8 rfl rfl rfl rfl ?_
  refine sq <| rg <| ?_
  refine vl (asv (v := .bool _) rfl) <| nl <| thn <| sq <| sq <| rg <| vl mv <| vl (ln Try.underlying36 rfl hb.len) <| vl (gt rfl rfl) <| nl <| thn <| ?_
  refine cdP rfl (fun hbig => ?_) (fun hbig => ?_)
  · refine sq <| rg <| ?_
    refine vl (asv (v := .bool _) rfl) <| nl <| thn <| rt <| thr <| p1r (a := .bool _) rfl <| ?_
    exact ⟨rfl, _, _, hK, VLe.refl _⟩
  · refine sk <| thn <| sq <| rg <| ?_
    refine vl (asv (v := .int _ _) rfl) <| nl <| thn <| sq <| rg <| vl mv <| vl (mvv (v := .int _ _) rfl) <| ?_
    refine cl Try.call18 rfl (szIntSS_c hK hv (by first | omega | (simp only; omega)) (by first | omega | (simp only; omega))) ?_
    rintro _ w ⟨⟨k, rfl, hk⟩, hK⟩
    refine vl (asv (v := .int _ _) rfl) <| nl <| thn <| sq <| sq <| rg <| vl (mvv (v := .int _ _) rfl) <| vl (lt rfl rfl) <| nl <| thn <| ?_
    refine cdP rfl (fun hn => ?_) (fun hn => ?_)
    · refine sq <| rg <| ?_
      refine vl (asv (v := .bool _) rfl) <| nl <| thn <| rt <| thr <| p1r (a := .bool _) rfl <| ?_
      exact ⟨rfl, _, _, hK, VLe.refl _⟩
    · have hk' := hk (by omega)
      have hb' : bad.length ≤ 1048576 := by omega
      refine sk <| thn <| sq <| rg <| ?_
      refine vl mv <| ?_
      refine cl Try.call20 rfl (toIntSS_v hK hv hk'.1 hk'.2) ?_
      rintro v1 w ⟨G1, hG1, hv1, hK⟩
      refine vl mv <| ?_
      refine cl Try.call26 rfl (toIntS_v hK (hb.mono hG1) hb') ?_
      rintro c1 w ⟨G2, hG2, hc1, hK⟩
      refine cl Try.call25 rfl (specPathsHonest_c hK (hv1.mono hG2) hc1) ?_
      rintro _ w ⟨rfl, hK⟩
      refine vl (asv (v := .int _ _) rfl) <| nl <| thn <| sq <| rg <| vl mv <| ?_
      refine cl Try.call20 rfl (toIntSS_v hK (hv.mono (hG1.trans hG2)) hk'.1 hk'.2) ?_
      rintro v2 w ⟨G3, hG3, hv2, hK⟩
      refine vl asg <| nl <| thn <| sq <| rg <| vl mv <| ?_
      refine cl Try.call26 rfl (toIntS_v hK (hb.mono ((hG1.trans hG2).trans hG3)) hb') ?_
      rintro c2 w ⟨G4, hG4, hc2, hK⟩
      refine vl asg <| nl <| thn <| sq <| rg <| vl mv <| vl mv <| ?_
      refine cl Try.call27 rfl (implPathsHonest_c hK (hv2.mono hG4) hc2) ?_
      rintro _ w ⟨rfl, hK⟩
      refine vl (asv (v := .int _ _) rfl) <| nl <| thn <| sq <| sq <| rg <| vl (mvv (v := .int _ _) rfl) <| vl (mvv (v := .int _ _) rfl) <| vl (ne rfl rfl) <| nl <| thn <| ?_
      refine cdP rfl (fun h => ?_) (fun h => ?_)
      · exact absurd rfl h
      · have _ := trivial
        refine sk <| thn <| sq <| sq <| rg <| ?_
        refine vl mv <| vl mv <| ?_
        have hG14 := ((hG1.trans hG2).trans hG3).trans hG4
        refine cl Try.call20 rfl (toIntSS_v hK (hv.mono hG14) hk'.1 hk'.2) ?_
        rintro v3 w ⟨G5, hG5, hv3, hK⟩
        refine cl Try.call22 rfl (eqIntSS_c hK (hv2.mono (hG4.trans hG5)) hv3) ?_
        rintro _ w ⟨rfl, hK⟩
        refine vl (nt rfl) <| nl <| thn <| ?_
        refine cdP rfl (fun h' => ?_) (fun h' => ?_)
        · exact absurd rfl h'
        · have _ := trivial
          refine sk <| thn <| sq <| sq <| rg <| ?_
          refine vl mv <| vl mv <| ?_
          refine cl Try.call26 rfl (toIntS_v hK (hb.mono (hG14.trans hG5)) hb') ?_
          rintro c3 w ⟨G6, hG6, hc3, hK⟩
          have hc2' := hc2.mono (hG5.trans hG6)
          refine cl Try.call28 rfl (eqIntS_c hK hc2' hc3) ?_
          rintro _ w ⟨rfl, hK⟩
          refine vl (nt rfl) <| nl <| thn <| ?_
          refine cdP rfl (fun h'' => ?_) (fun h'' => ?_)
          · exact absurd rfl h''
          · have _ := trivial
            refine sk <| thn <| sq <| rg <| ?_
            refine vl (asv (v := .bool _) rfl) <| nl <| thn <| rt <| p1r (a := .bool _) rfl <| ?_
            exact ⟨rfl, _, _, hK, (hG14.trans hG5).trans hG6⟩

theorem FnPathsHonest_c (hK : K e w G L) (hc : BytS G cva code) : Ret Try.prog 9 #[cva] w (fun r w' => r = .bool true ∧ ∃ G' L', K e w' G' L' ∧ VLe G G') := by
  refine enter1 (args := [cva]) Try.func9 rfl rfl rfl rfl ?_
  refine sq <| rg <| ?_
  refine vl (asv (v := .bool _) rfl) <| nl <| thn <| sq <| sq <| rg <| vl mv <| vl (ln Try.underlying22 rfl hc.len) <| vl (gt rfl rfl) <| nl <| thn <| ?_
  refine cdP rfl (fun hbig => ?_) (fun hbig => ?_)
  · refine sq <| rg <| ?_
    refine vl (asv (v := .bool _) rfl) <| nl <| thn <| rt <| thr <| p1r (a := .bool _) rfl <| ?_
    exact ⟨rfl, _, _, hK, VLe.refl _⟩
  · refine sk <| thn <| sq <| rg <| ?_
    refine vl mv <| ?_
    refine cl Try.call29 rfl (DrawPathsHonest_c hK hc) ?_
    rintro _ w ⟨G1, v, xss, bv, bad, rfl, hG1, hv, hb, h9, hK⟩
    refine vl mv <| vl (ext rfl rfl) <| vl (ext rfl rfl) <| vl asg <| vl asg <| nl <| thn <| sq <| rg <| vl mv <| vl mv <| ?_
    have hh := honest_le xss bad
    have hble := hb.le
    refine cl Try.call27 rfl (implPathsHonest_c hK hv hb) ?_
    rintro _ w ⟨rfl, hK⟩
    refine vl (asv (v := .int _ _) rfl) <| nl <| thn <| sq <| rg <| vl mv <| vl mv <| ?_
    refine cl Try.call25 rfl (specPathsHonest_c hK hv hb) ?_
    rintro _ w ⟨rfl, hK⟩
    refine vl (asv (v := .int _ _) rfl) <| nl <| thn <| sq <| sq <| rg <| vl (mvv (v := .int _ _) rfl) <| vl (mvv (v := .int _ _) rfl) <| vl (ne rfl rfl) <| vl (mvv (v := .bool _) rfl) <| ?_
    refine splP (t := 24) rfl (fun hne => ?_) (fun hne => ?_)
    · exact absurd rfl hne
    · have _ := trivial
      refine gy rfl <| vl (mvv (v := .int _ _) rfl) <| gy rfl <| vl (lt rfl rfl) <| vl (pk rfl) <| nl <| thn <| ?_
      refine cdP rfl (fun hneg => ?_) (fun hneg => ?_)
      · refine sq <| rg <| ?_
        refine vl (mvv (v := .int _ _) rfl) <| vl (mvv (v := .int _ _) rfl) <| vl (eq rfl rfl) <| vl (asv (v := .bool _) rfl) <| nl <| thn <| rt <| thr <| p1r (a := .bool _) rfl <| ?_
        exact ⟨by simp, _, _, hK, hG1⟩
      · refine sk <| thn <| sq <| rg <| ?_
        refine vl (mvv (v := .int _ _) rfl) <| vl mv <| vl (ln Try.underlying30 rfl hv.len) <| vl (le rfl rfl) <| vl (mvv (v := .bool _) rfl) <| ?_
        have hok : PathsOk xss := by
          by_cases h : PathsOk xss
          · exact h
          · rw [honest, if_neg h] at hneg; omega
        have hhe : honest xss bad = (xss.countP (clean bad) : Nat) := if_pos hok
        refine splP (t := 35) rfl (fun hle => ?_) (fun hle => ?_)
        · refine gy rfl <| vl mv <| gy rfl <| ?_
          refine cl Try.call21 rfl (implPathsDisjoint_c hK hv) ?_
          rintro _ w ⟨⟨b, rfl, hb1⟩, hK⟩
          refine gy rfl <| vl (ntB rfl) <| gy rfl <| vl (mvv (v := .bool _) rfl) <| ?_
          refine spl (t := 39) rfl (fun hd => ?_) (fun hd => ?_)
          · refine gn rfl <| gn rfl <| gn rfl <| gn rfl <| gn rfl <| gn rfl <| gn rfl <| gy rfl <| vl (pk rfl) <| vl (pk rfl) <| vl (asv (v := .bool _) rfl) <| nl <| thn <| rt <| p1r (a := .bool _) rfl <| ?_
            exact ⟨rfl, _, _, hK, hG1⟩
          · have hD : Disj xss := hb1.1 (by simpa using hd)
            have h1 := hD.honest bad
            refine gy rfl <| vl (mvv (v := .int _ _) rfl) <| gy rfl <| vl mv <| gy rfl <| vl (ln Try.underlying30 rfl hv.len) <| gy rfl <| vl mv <| gy rfl <| vl (ln Try.underlying36 rfl hb.len) <| gy rfl <| vl (sb rfl rfl (by first | omega | (simp only; omega)) (by first | omega | (simp only; omega))) <| gy rfl <| vl (ge rfl rfl) <| gy rfl <| vl (pk rfl) <| vl (pk rfl) <| vl (asv (v := .bool _) rfl) <| nl <| thn <| ?_
            refine rt <| p1r (a := .bool _) rfl <| ?_
            exact ⟨by rw [decide_eq_true]; rw [hhe]; omega, _, _, hK, hG1⟩
        · exact absurd hh.1 hle
end
end Go.Proofs.Ytnjijnlckbaggaa
