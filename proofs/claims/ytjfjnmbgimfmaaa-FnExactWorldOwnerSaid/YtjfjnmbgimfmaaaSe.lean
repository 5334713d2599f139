/- Contracts of the functions that copy, compare and mark leases and scans. Conditions: those that each row states. -/
import Derived.Test.YtjfjnmbgimfmaaaSl
import Derived.Test.YtjfjnmbgimfmaaaIn
namespace Go.Proofs.Ytjfjnmbgimfmaaa
open Go Go.Ro

section
variable {e w : World} {G : View} {L A : Own} {v u t t2 : Value} {xs ys ks ts us : List Int} {ls ms : List Ls} {n m k : Int}

theorem toLease_c (hK : K e w G L) {x : Ls} : Ret Try.prog 113 #[.agg (lc x).toArray] w (fun r w' => r = .agg (lc x).toArray ∧ K e w' G L) := by
  refine enterG1 (args := [.agg (lc x).toArray]) Try.func113 rfl rfl rfl rfl ?_
  refine sq <| rg <| ?_
  refine bx hK rfl rfl ?_
  intro b1 w hK
  refine al hK Ty.i95 rfl ?_
  intro b2 w hK
  refine nl <| thn <| sq <| rg <| ?_
  refine al hK Ty.i95 rfl ?_
  intro b3 w hK
  refine nl <| thn <| sq <| rg <| vl (fa Try.underlying117 rfl Ty.z3 rfl) <| vl (ldO hK Ty.o3 2 rfl rfl rfl) <| vl (fa Try.underlying95 rfl Ty.z3 rfl) <| ?_
  refine so hK Ty.i3 rfl 0 rfl rfl rfl rfl rfl ?_
  intro w hK
  refine nl <| thn <| sq <| rg <| vl (fa Try.underlying117 rfl Ty.z3 rfl) <| vl (ldO hK Ty.o3 2 rfl rfl rfl) <| vl (fa Try.underlying95 rfl Ty.z3 rfl) <| ?_
  refine so hK Ty.i3 rfl 0 rfl rfl rfl rfl rfl ?_
  intro w hK
  refine nl <| thn <| sq <| rg <| vl (fa Try.underlying117 rfl Ty.z3 rfl) <| vl (ldO hK Ty.o3 2 rfl rfl rfl) <| vl (fa Try.underlying95 rfl Ty.z3 rfl) <| ?_
  refine so hK Ty.i3 rfl 0 rfl rfl rfl rfl rfl ?_
  intro w hK
  refine nl <| thn <| sq <| rg <| vl (lsO hK Ty.a95 Ty.s95 0 rfl rfl rfl) <| ?_
  refine soS hK Ty.i95 1 rfl rfl rfl rfl rfl rfl ?_
  intro w hK
  refine nl <| thn <| rt <| pg1r (rvS hK Ty.a95 Ty.s95 1 rfl rfl rfl) <| ?_
  exact ⟨rfl, hK.drop1.drop1.drop1⟩

theorem eqLease_c (hK : K e w G L) {x y : Ls} : Ret Try.prog 89 #[.agg (lc x).toArray, .agg (lc y).toArray] w (fun r w' => r = .bool (decide (x = y)) ∧ K e w' G L) := by
  refine enter1 (args := [.agg (lc x).toArray, .agg (lc y).toArray]) Try.func89 rfl rfl rfl rfl ?_
  refine sq <| rg <| ?_
  refine bx hK rfl rfl ?_
  intro b2 w hK
  refine bx hK rfl rfl ?_
  intro b3 w hK
  refine vl (asv (v := .bool _) rfl) <| nl <| thn <| sq <| sq <| rg <| vl (fa Try.underlying95 rfl Ty.z3 rfl) <| vl (ldO hK Ty.o3 1 rfl rfl rfl) <| vl (fa Try.underlying95 rfl Ty.z3 rfl) <| vl (ldO hK Ty.o3 0 rfl rfl rfl) <| vl (ne rfl rfl) <| nl <| thn <| ?_
  refine cdP rfl (fun h1 => ?_) (fun h1 => ?_)
  · refine sq <| rg <| ?_
    refine vl (asv (v := .bool _) rfl) <| nl <| thn <| rt <| thr <| p1r (a := .bool _) rfl <| ?_
    exact ⟨by rw [decide_eq_false]; rintro rfl; exact h1 rfl, hK.drop1.drop1⟩
  · refine sk <| thn <| sq <| sq <| rg <| ?_
    refine vl (fa Try.underlying95 rfl Ty.z3 rfl) <| vl (ldO hK Ty.o3 1 rfl rfl rfl) <| vl (fa Try.underlying95 rfl Ty.z3 rfl) <| vl (ldO hK Ty.o3 0 rfl rfl rfl) <| vl (ne rfl rfl) <| nl <| thn <| ?_
    refine cdP rfl (fun h2 => ?_) (fun h2 => ?_)
    · refine sq <| rg <| ?_
      refine vl (asv (v := .bool _) rfl) <| nl <| thn <| rt <| thr <| p1r (a := .bool _) rfl <| ?_
      exact ⟨by rw [decide_eq_false]; rintro rfl; exact h2 rfl, hK.drop1.drop1⟩
    · refine sk <| thn <| sq <| sq <| rg <| ?_
      refine vl (fa Try.underlying95 rfl Ty.z3 rfl) <| vl (ldO hK Ty.o3 1 rfl rfl rfl) <| vl (fa Try.underlying95 rfl Ty.z3 rfl) <| vl (ldO hK Ty.o3 0 rfl rfl rfl) <| vl (ne rfl rfl) <| nl <| thn <| ?_
      refine cdP rfl (fun h3 => ?_) (fun h3 => ?_)
      · refine sq <| rg <| ?_
        refine vl (asv (v := .bool _) rfl) <| nl <| thn <| rt <| thr <| p1r (a := .bool _) rfl <| ?_
        exact ⟨by rw [decide_eq_false]; rintro rfl; exact h3 rfl, hK.drop1.drop1⟩
      · refine sk <| thn <| sq <| rg <| ?_
        refine vl (asv (v := .bool _) rfl) <| nl <| thn <| rt <| p1r (a := .bool _) rfl <| ?_
        exact ⟨by rw [decide_eq_true]; exact Prod.ext (Decidable.not_not.1 h1) (Prod.ext (Decidable.not_not.1 h2) (Decidable.not_not.1 h3)), hK.drop1.drop1⟩

theorem eqLeaseS_c (hK : K e w G L) (hv : LeaS G v ls) (hu : LeaS G u ms) :
    Ret Try.prog 31 #[v, u] w (fun r w' => r = .bool (decide (ls = ms)) ∧ K e w' G L) := by
  have hle := hv.le
  refine enter1 (args := [v, u]) Try.func31 rfl rfl rfl rfl ?_
  refine sq <| rg <| ?_
  refine vl (asv (v := .bool _) rfl) <| nl <| thn <| sq <| sq <| rg <| vl mv <| vl (ln Try.underlying24 rfl hv.len) <| vl mv <| vl (ln Try.underlying24 rfl hu.len) <| vl (ne rfl rfl) <| nl <| thn <| ?_
  refine cdP rfl (fun h => ?_) (fun h => ?_)
  · refine sq <| rg <| ?_
    refine vl (asv (v := .bool _) rfl) <| nl <| thn <| rt <| thr <| p1r (a := .bool _) rfl <| ?_
    exact ⟨by rw [decide_eq_false]; rintro rfl; exact h rfl, hK⟩
  · have hlen : ls.length = ms.length := by omega
    refine sk <| thn <| sq <| sq <| rg <| ?_
    refine vl (asv (v := .int _ _) rfl) <| nl <| thn <| bk <| ?_
    refine lp (σ := Nat) (fun i => [(0, v), (1, u), (5, .int .i64 (i : Int))]) (fun i w => i ≤ ls.length ∧ ls.take i = ms.take i ∧ K e w G L) (fun i => ls.length - i) 0 ⟨rfl, rfl, rfl, trivial⟩ ⟨Nat.zero_le _, by simp, hK⟩ ?_
    rintro i g w ⟨hi, ht, hK⟩
    refine sq <| sq <| rg <| ?_
    refine vl (mvv (v := .int _ _) rfl) <| vl mv <| vl (ln Try.underlying24 rfl hv.len) <| vl (lt rfl rfl) <| nl <| thn <| ?_
    refine cdP rfl (fun hc => ?_) (fun hc => ?_)
    · have hi' : i < ls.length := by omega
      have hi2 : i < ms.length := by omega
      refine sk <| thn <| sq <| bk <| sq <| ?_
      refine rgq (fun w => K _ w _ _) Ty.mixed (by kernel_rfl) (hK.drawn _) ?_
      refine qv (fun w hK => mv) <| ?_; refine qv (fun w hK => (mvv (v := .int _ _) rfl)) <| ?_; refine qv (fun w hK => (ixn Try.underlying24 Ty.s95 rfl hv.1 rfl (by first | omega | (simp only; omega)))) <| ?_; refine qv (fun w hK => (lsF hK Ty.a95 Ty.s95 rfl hv (by first | omega | (simp only; omega)))) <| ?_; refine qv (fun w hK => mv) <| ?_; refine qv (fun w hK => (mvv (v := .int _ _) rfl)) <| ?_; refine qv (fun w hK => (ixn Try.underlying24 Ty.s95 rfl hu.1 rfl (by first | omega | (simp only; omega)))) <| ?_; refine qv (fun w hK => (lsF hK Ty.a95 Ty.s95 rfl hu (by first | omega | (simp only; omega)))) <| ?_
      refine qcl Try.call89 rfl (fun w hK => eqLease_c hK) ?_
      refine qv (fun w hK => (nt rfl)) <| ?_; refine qn <| ?_
      intro w hK
      refine thn <| ?_
      refine cdP rfl (fun hx => ?_) (fun hx => ?_)
      · refine sq <| rg <| ?_
        refine vl (asv (v := .bool _) rfl) <| nl <| thn <| rt <| bkr <| thr <| thr <| bkr <| thr <| p1r (a := .bool _) rfl <| ?_
        exact ⟨by rw [decide_eq_false]; rintro rfl; exact hx rfl, hK⟩
      · have hxx : ls[i] = ms[i] := Decidable.not_not.1 hx
        refine sk <| bkn <| thn <| rg <| ?_
        refine vl (mvv (v := .int _ _) rfl) <| vl (ad rfl rfl (by first | omega | (simp only; omega)) (by first | omega | (simp only; omega))) <| vl (asv (v := .int _ _) rfl) <| nl <| thn <| ?_
        exact ⟨i + 1, ⟨rfl, rfl, rfl, trivial⟩, ⟨hi', by rw [List.take_succ_eq_append_getElem hi', List.take_succ_eq_append_getElem hi2, ht, hxx], hK⟩, by omega⟩
    · refine ex <| the <| the <| bkh <| thn <| sq <| rg <| ?_
      refine vl (asv (v := .bool _) rfl) <| nl <| thn <| rt <| p1r (a := .bool _) rfl <| ?_
      exact ⟨by rw [decide_eq_true]; rw [List.take_of_length_le (by omega), List.take_of_length_le (by omega)] at ht; exact ht, hK⟩
theorem eqLeaseS_o (hK : K e w G (A ++ L)) (ho : OS 3 95 v ls.length (ls.flatMap lc) A) (hu : LeaS G u ms) :
    Ret Try.prog 31 #[v, u] w (fun r w' => r = .bool (decide (ls = ms)) ∧ K e w' G (A ++ L)) :=
  Ret.own hK fun hK' => eqLeaseS_c hK' (ho.ef (fun _ => rfl)) (hu.mono hK.addV_le)
theorem eqIntS_o {t0 : Nat} (hK : K e w G (A ++ L)) (ho : OS 1 t0 v xs.length (ints xs) A) (hu : IntS G u ys) :
    Ret Try.prog 11 #[v, u] w (fun r w' => r = .bool (decide (xs = ys)) ∧ K e w' G (A ++ L)) :=
  Ret.own hK fun hK' => eqIntS_c hK' ho.ints (hu.mono hK.addV_le)

theorem szLeaseS_c (hK : K e w G L) (hv : LeaS G v ls) {n : Int} (h0 : 0 ≤ n) (h1 : n ≤ 1048576) :
    Ret Try.prog 67 #[v, .int .i64 n] w (fun r w' => (∃ k, r = .int .i64 k ∧ -1 ≤ k ∧ k ≤ n ∧ (0 ≤ k → k = n - ls.length)) ∧ K e w' G L) := by
  have hle := hv.le
  refine enter1 (args := [v, .int .i64 n]) Try.func67 rfl rfl rfl rfl ?_
  refine sq <| rg <| ?_
  refine vl (asv (v := .int _ _) rfl) <| nl <| thn <| sq <| rg <| vl (mvv (v := .int _ _) rfl) <| vl mv <| vl (ln Try.underlying44 rfl hv.len) <| vl (sb rfl rfl (by first | omega | (simp only; omega)) (by first | omega | (simp only; omega))) <| vl (asv (v := .int _ _) rfl) <| nl <| thn <| sq <| sq <| rg <| vl (mvv (v := .int _ _) rfl) <| vl (lt rfl rfl) <| nl <| thn <| ?_
  refine cdP rfl (fun h => ?_) (fun h => ?_)
  · refine sq <| rg <| ?_
    refine vl (asv (v := .int _ _) rfl) <| nl <| thn <| rt <| thr <| p1r (a := .int _ _) rfl <| ?_
    exact ⟨⟨_, rfl, by omega, by omega, by omega⟩, hK⟩
  · refine sk <| thn <| sq <| rg <| ?_
    refine vl (mvv (v := .int _ _) rfl) <| vl (asv (v := .int _ _) rfl) <| nl <| thn <| rt <| p1r (a := .int _ _) rfl <| ?_
    exact ⟨⟨_, rfl, by omega, by omega, by omega⟩, hK⟩
theorem szScan_c (hK : K e w G L) (ht : IntS G t ts) {n m : Int} (h0 : 0 ≤ m) (h1 : m ≤ 1048576) :
    Ret Try.prog 69 #[.agg #[.int .i64 n, t], .int .i64 m] w (fun r w' => (∃ k, r = .int .i64 k ∧ -1 ≤ k ∧ k ≤ m ∧ (0 ≤ k → k = m - ts.length)) ∧ K e w' G L) := by
  refine enter1 (args := [.agg #[.int .i64 n, t], .int .i64 m]) Try.func69 rfl rfl rfl rfl ?_
  refine sq <| rg <| ?_
  refine bx hK rfl rfl ?_
  intro b2 w hK
  refine vl (asv (v := .int _ _) rfl) <| nl <| thn <| sq <| rg <| vl (fa Try.underlying46 rfl Ty.z22 rfl) <| vl (ldO hK Ty.o22 0 rfl rfl rfl) <| vl (mvv (v := .int _ _) rfl) <| ?_
  refine cl Try.call70 rfl (szIntS_c hK ht h0 h1) ?_
  rintro _ w ⟨⟨k, rfl, g1, g2, g3⟩, hK⟩
  refine vl (asv (v := .int _ _) rfl) <| nl <| thn <| sq <| sq <| rg <| vl (mvv (v := .int _ _) rfl) <| vl (lt rfl rfl) <| nl <| thn <| ?_
  refine cdP rfl (fun h => ?_) (fun h => ?_)
  · refine sq <| rg <| ?_
    refine vl (asv (v := .int _ _) rfl) <| nl <| thn <| rt <| thr <| p1r (a := .int _ _) rfl <| ?_
    exact ⟨⟨_, rfl, by omega, by omega, by omega⟩, hK.drop1⟩
  · refine sk <| thn <| sq <| rg <| ?_
    refine vl (mvv (v := .int _ _) rfl) <| vl (asv (v := .int _ _) rfl) <| nl <| thn <| rt <| p1r (a := .int _ _) rfl <| ?_
    exact ⟨⟨_, rfl, by omega, by omega, by omega⟩, hK.drop1⟩

theorem toLeaseS_c (hK : K e w G L) (hv : LeaS G v ls) (hl : ls.length ≤ 1048576) :
    Ret Try.prog 80 #[v] w (fun r w' => ∃ A, OS 3 95 r ls.length (ls.flatMap lc) A ∧ K e w' G (A ++ L)) := by
  refine enter1 (args := [v]) Try.func80 rfl rfl rfl rfl ?_
  refine sq <| rg <| ?_
  refine vl asg <| nl <| thn <| sq <| rg <| vl mv <| vl (ln Try.underlying44 rfl hv.len) <| ?_
  refine mks hK Try.underlying24 Ty.i95 rfl rfl rfl rfl rfl (by first | omega | (simp only; omega)) rfl ?_
  intro b7 w ho7 hK
  refine vl asg <| nl <| thn <| sq <| sq <| rg <| vl (asv (v := .int _ _) rfl) <| nl <| thn <| bk <| ?_
  rw [show ([.int .i64 0, .int .i64 0, .int .i64 0] : List Value) = lc (0, 0, 0) from rfl, flat_rep] at hK ho7
  refine lp (σ := Nat × Own) (fun s => [(0, v), (3, .slice (some ⟨b7, 0, none⟩) ls.length ls.length), (4, .int .i64 (s.1 : Int))]) (fun s w => s.1 ≤ ls.length ∧ OS 3 95 (.slice (some ⟨b7, 0, none⟩) ls.length ls.length) ls.length ((ls.take s.1 ++ List.replicate (ls.length - s.1) (0, 0, 0)).flatMap lc) s.2 ∧ K e w G (s.2 ++ L)) (fun s => ls.length - s.1) (0, [_]) ⟨rfl, rfl, rfl, trivial⟩ ⟨Nat.zero_le _, by simpa using ho7, by simpa using hK⟩ ?_
  rintro ⟨i, A⟩ g w ⟨hi, ho, hK⟩
  simp only at hi ho hK
  refine sq <| sq <| rg <| ?_
  refine vl (mvv (v := .int _ _) rfl) <| vl mv <| vl (ln Try.underlying44 rfl hv.len) <| vl (lt rfl rfl) <| nl <| thn <| ?_
  refine cdP rfl (fun hc => ?_) (fun hc => ?_)
  · have hi' : i < ls.length := by simp only at hc; omega
    refine sk <| thn <| sq <| bk <| rg <| ?_
    refine vl mv <| vl (mvv (v := .int _ _) rfl) <| vl mv <| vl (mvv (v := .int _ _) rfl) <| vl (ixn Try.underlying44 Ty.s117 rfl hv.1 rfl (by first | omega | (simp only; omega))) <| vl (lsF hK Ty.a117 Ty.s117 rfl hv (by first | omega | (simp only; omega))) <| ?_
    refine cl Try.call113 rfl (toLease_c hK) ?_
    rintro _ w ⟨rfl, hK⟩
    refine vl (ixn Try.underlying24 Ty.s95 rfl ho.slw rfl (by first | omega | (simp only; omega))) <| ?_
    refine osSetS (i := i) (us := lc ls[i]) hK ho (by first | omega | (simp only; omega)) Ty.i95 rfl rfl rfl rfl fun A' w ho hK => ?_
    rw [flat_sets (c := lc) (sz := 3) (fun _ => rfl) _ i ls[i] (by rw [List.length_append, List.length_take, List.length_replicate]; omega)] at ho
    have hs := set_next (us := ls.take i) (z := ((0, 0, 0) : Ls)) (u := ls[i]) (i := i) (m := ls.length) (by rw [List.length_take]; omega) hi'
    rw [Nat.zero_add] at hs
    rw [hs, ← List.take_succ_eq_append_getElem hi'] at ho
    refine nl <| bkn <| thn <| rg <| vl (mvv (v := .int _ _) rfl) <| vl (ad rfl rfl (by first | omega | (simp only; omega)) (by first | omega | (simp only; omega))) <| vl (asv (v := .int _ _) rfl) <| nl <| thn <| ?_
    exact ⟨(i + 1, A'), ⟨rfl, rfl, rfl, trivial⟩, ⟨hi', ho, hK⟩, by simp only; omega⟩
  · have : i = ls.length := by simp only at hc; omega
    subst this
    refine ex <| the <| the <| bkh <| thn <| sq <| rg <| ?_
    refine vl mv <| vl asg <| nl <| thn <| rt <| p1r (a := _) rfl <| ?_
    have ho' : OS 3 95 (.slice (some ⟨b7, 0, none⟩) ls.length ls.length) ls.length (ls.flatMap lc) A := by simpa using ho
    exact ⟨A, ho', hK⟩
theorem toLeaseS_v (hK : K e w G L) (hv : LeaS G v ls) (hl : ls.length ≤ 1048576) :
    Ret Try.prog 80 #[v] w (fun r w' => ∃ G', VLe G G' ∧ LeaS G' r ls ∧ K e w' G' L) :=
  (toLeaseS_c hK hv hl).mono fun _ _ ⟨_, ho, hK⟩ => K.pubE (fun _ => rfl) hK ho
theorem toIntS_o (hK : K e w G L) (hv : IntS G v xs) (hl : xs.length ≤ 1048576) :
    Ret Try.prog 8 #[v] w (fun r w' => ∃ A, OS 1 3 r xs.length (ints xs) A ∧ K e w' G (A ++ L)) :=
  (toIntS_c hK hv hl).mono fun _ _ ⟨_, hr, hK⟩ => ⟨[_], hr ▸ OS.lit (by simp) (by omega), hK⟩
theorem toScan_c (hK : K e w G L) (ht : IntS G t ts) (hl : ts.length ≤ 1048576) :
    Ret Try.prog 82 #[.agg #[.int .i64 n, t]] w (fun r w' => ∃ t' A, r = .agg #[.int .i64 n, t'] ∧ OS 1 3 t' ts.length (ints ts) A ∧ K e w' G (A ++ L)) := by
  refine enterG1 (args := [.agg #[.int .i64 n, t]]) Try.func82 rfl rfl rfl rfl ?_
  refine sq <| rg <| ?_
  refine bx hK rfl rfl ?_
  intro b1 w hK
  refine al hK Ty.i27 rfl ?_
  intro b2 w hK
  refine nl <| thn <| sq <| rg <| ?_
  refine al hK Ty.i27 rfl ?_
  intro b3 w hK
  refine nl <| thn <| sq <| rg <| vl (fa Try.underlying46 rfl Ty.z3 rfl) <| vl (ldO hK Ty.o3 2 rfl rfl rfl) <| vl (fa Try.underlying27 rfl Ty.z3 rfl) <| ?_
  refine so hK Ty.i3 rfl 0 rfl rfl rfl rfl rfl ?_
  intro w hK
  refine nl <| thn <| sq <| rg <| vl (fa Try.underlying46 rfl Ty.z22 rfl) <| vl (ldO hK Ty.o22 2 rfl rfl rfl) <| ?_
  refine cl Try.call8 rfl (toIntS_o hK ht hl) ?_
  rintro t9 w ⟨A, ho, hK⟩
  replace hK := K.mid (B := [_, _, _]) hK
  refine vl (fa Try.underlying27 rfl Ty.z22 rfl) <| ?_
  refine so hK Ty.i22 rfl 0 rfl rfl rfl ho.one rfl ?_
  intro w hK
  refine nl <| thn <| sq <| rg <| vl (lsO hK Ty.a27 Ty.s27 0 rfl rfl rfl) <| ?_
  refine soS hK Ty.i27 1 rfl rfl rfl rfl (allc rfl (allc ho.one rfl)) rfl ?_
  intro w hK
  refine nl <| thn <| rt <| pg1r (rvS hK Ty.a27 Ty.s27 1 rfl rfl rfl) <| ?_
  exact ⟨_, A, rfl, ho, hK.drop1.drop1.drop1⟩
theorem toScan_v (hK : K e w G L) (ht : IntS G t ts) (hl : ts.length ≤ 1048576) :
    Ret Try.prog 82 #[.agg #[.int .i64 n, t]] w (fun r w' => ∃ G' t', r = .agg #[.int .i64 n, t'] ∧ VLe G G' ∧ IntS G' t' ts ∧ K e w' G' L) :=
  (toScan_c hK ht hl).mono fun _ _ ⟨t', _, hr, ho, hK⟩ => let ⟨G', h1, h2, h3⟩ := hK.pubO ho; ⟨G', t', hr, h1, h2, h3⟩

theorem markIntS_c (hK : K e w G (A ++ L)) (ho : OS 1 3 v xs.length (ints xs) A) (hl : xs.length ≤ 1048576) (h0 : 0 ≤ k) (h1 : k ≤ 1000000000) :
    Ret Try.prog 12 #[v, .int .i64 k] w (fun r w' => r = .int .i64 (k + xs.length) ∧ ∃ A', OS 1 3 v xs.length (ints (marks k xs.length)) A' ∧ K e w' G (A' ++ L)) := by
  refine enter1 (args := [v, .int .i64 k]) Try.func12 rfl rfl rfl rfl ?_
  refine sq <| rg <| ?_
  refine vl (asv (v := .int _ _) rfl) <| nl <| thn <| sq <| sq <| rg <| vl (asv (v := .int _ _) rfl) <| nl <| thn <| bk <| ?_
  refine lp (σ := Nat × Own) (fun s => [(0, v), (1, .int .i64 (k + (s.1 : Int))), (5, .int .i64 (s.1 : Int))]) (fun s w => s.1 ≤ xs.length ∧ OS 1 3 v xs.length (ints (marks k s.1 ++ xs.drop s.1)) s.2 ∧ K e w G (s.2 ++ L)) (fun s => xs.length - s.1) (0, A) ⟨rfl, (by show Value.int .i64 k = Value.int .i64 (k + ((0 : Nat) : Int)); simp), rfl, trivial⟩ ⟨Nat.zero_le _, by simpa [marks] using ho, hK⟩ ?_
  rintro ⟨i, A⟩ g w ⟨hi, ho, hK⟩
  simp only at hi ho hK
  refine sq <| sq <| rg <| ?_
  refine vl (mvv (v := .int _ _) rfl) <| vl mv <| vl (ln Try.underlying22 rfl ho.len) <| vl (lt rfl rfl) <| nl <| thn <| ?_
  refine cdP rfl (fun hc => ?_) (fun hc => ?_)
  · have hi' : i < xs.length := by simp only at hc; omega
    refine sk <| thn <| sq <| bk <| sq <| rg <| ?_
    refine vl mv <| vl (mvv (v := .int _ _) rfl) <| vl (mvv (v := .int _ _) rfl) <| vl (ixn1 Try.underlying22 Ty.s3 rfl ho.slw rfl (by first | omega | (simp only; omega))) <| ?_
    refine osSet (i := i) (u := .int .i64 (k + (i : Int))) hK ho (by first | omega | (simp only; omega)) Ty.i3 rfl rfl rfl rfl fun A' w ho hK => ?_
    rw [ints_set, marks_set (m := xs.length) rfl hi'] at ho
    refine nl <| thn <| rg <| vl (mvv (v := .int _ _) rfl) <| vl (ad rfl rfl (by first | omega | (simp only; omega)) (by first | omega | (simp only; omega))) <| vl (asv (v := .int _ _) rfl) <| nl <| bkn <| thn <| rg <| vl (mvv (v := .int _ _) rfl) <| vl (ad rfl rfl (by first | omega | (simp only; omega)) (by first | omega | (simp only; omega))) <| vl (asv (v := .int _ _) rfl) <| nl <| thn <| ?_
    refine ⟨(i + 1, A'), ⟨rfl, ?_, rfl, trivial⟩, ⟨hi', ho, hK⟩, by simp only; omega⟩
    show Value.int .i64 (k + (i : Int) + 1) = Value.int .i64 (k + ((i + 1 : Nat) : Int))
    congr 1; omega
  · have : i = xs.length := by simp only at hc; omega
    subst this
    refine ex <| the <| the <| bkh <| thn <| sq <| rg <| ?_
    refine vl (mvv (v := .int _ _) rfl) <| vl (asv (v := .int _ _) rfl) <| nl <| thn <| rt <| p1r (a := .int _ _) rfl <| ?_
    exact ⟨rfl, A, by simpa using ho, hK⟩

theorem heldIntS_c (hK : K e w G L) (hv : IntS G v xs) (hm : xs = marks k xs.length) (hl : xs.length ≤ 1048576) (h0 : 0 ≤ k) (h1 : k ≤ 1000000000) :
    Ret Try.prog 42 #[v, .int .i64 k] w (fun r w' => r = .int .i64 (k + xs.length) ∧ K e w' G L) := by
  refine enter1 (args := [v, .int .i64 k]) Try.func42 rfl rfl rfl rfl ?_
  refine sq <| rg <| ?_
  refine vl (asv (v := .int _ _) rfl) <| nl <| thn <| sq <| sq <| rg <| vl (asv (v := .int _ _) rfl) <| nl <| thn <| bk <| ?_
  refine lp (σ := Nat) (fun i => [(0, v), (1, .int .i64 (k + (i : Int))), (5, .int .i64 (i : Int))]) (fun i w => i ≤ xs.length ∧ K e w G L) (fun i => xs.length - i) 0 ⟨rfl, (by show Value.int .i64 k = Value.int .i64 (k + ((0 : Nat) : Int)); simp), rfl, trivial⟩ ⟨Nat.zero_le _, hK⟩ ?_
  rintro i g w ⟨hi, hK⟩
  refine sq <| sq <| rg <| ?_
  refine vl (mvv (v := .int _ _) rfl) <| vl mv <| vl (ln Try.underlying22 rfl hv.len) <| vl (lt rfl rfl) <| nl <| thn <| ?_
  refine cdP rfl (fun hc => ?_) (fun hc => ?_)
  · have hi' : i < xs.length := by omega
    have hx : xs[i] = k + i := by
      have h2 : xs[i]? = (marks k xs.length)[i]? := by rw [← hm]
      rw [List.getElem?_eq_getElem hi', List.getElem?_eq_getElem (by rw [marks_len]; exact hi')] at h2
      rw [Option.some.inj h2, marks_get]
    refine sk <| thn <| sq <| bk <| sq <| sq <| rg <| ?_
    refine vl mv <| vl (mvv (v := .int _ _) rfl) <| vl (ixn1 Try.underlying22 Ty.s3 rfl hv.1 rfl (by first | omega | (simp only; omega))) <| vl (ldV hK Ty.o3 rfl (hv.at (by first | omega | (simp only; omega)))) <| vl (mvv (v := .int _ _) rfl) <| vl (ne rfl rfl) <| nl <| thn <| ?_
    refine cdP rfl (fun hne => ?_) (fun hne => ?_)
    · exact absurd hx hne
    · have _ := trivial
      refine sk <| thn <| rg <| ?_
      refine vl (mvv (v := .int _ _) rfl) <| vl (ad rfl rfl (by first | omega | (simp only; omega)) (by first | omega | (simp only; omega))) <| vl (asv (v := .int _ _) rfl) <| nl <| bkn <| thn <| rg <| vl (mvv (v := .int _ _) rfl) <| vl (ad rfl rfl (by first | omega | (simp only; omega)) (by first | omega | (simp only; omega))) <| vl (asv (v := .int _ _) rfl) <| nl <| thn <| ?_
      refine ⟨i + 1, ⟨rfl, ?_, rfl, trivial⟩, ⟨hi', hK⟩, by omega⟩
      show Value.int .i64 (k + (i : Int) + 1) = Value.int .i64 (k + ((i + 1 : Nat) : Int))
      congr 1; omega
  · have : i = xs.length := by omega
    subst this
    refine ex <| the <| the <| bkh <| thn <| sq <| rg <| ?_
    refine vl (mvv (v := .int _ _) rfl) <| vl (asv (v := .int _ _) rfl) <| nl <| thn <| rt <| p1r (a := .int _ _) rfl <| ?_
    exact ⟨rfl, hK⟩
theorem heldIntS_o (hK : K e w G (A ++ L)) (ho : OS 1 3 v n.toNat (ints (marks k n.toNat)) A) (hl : n.toNat ≤ 1048576) (h0 : 0 ≤ k) (h1 : k ≤ 1000000000) :
    Ret Try.prog 42 #[v, .int .i64 k] w (fun r w' => r = .int .i64 (k + n.toNat) ∧ K e w' G (A ++ L)) :=
  Ret.own hK fun hK' => by
    have h := heldIntS_c (xs := marks k n.toNat) hK' (OS.ints (by rw [marks_len]; exact ho)) (by rw [marks_len]) (by rw [marks_len]; exact hl) h0 h1
    rw [marks_len] at h; exact h

theorem markLeaseS_c (hK : K e w G (A ++ L)) (ho : OS 3 95 v ls.length (ls.flatMap lc) A) (hl : ls.length ≤ 1048576) (h0 : 0 ≤ k) (h1 : k ≤ 1000000000) :
    Ret Try.prog 35 #[v, .int .i64 k] w (fun r w' => r = .int .i64 (k + 3 * ls.length) ∧ ∃ A', K e w' G (A' ++ L)) := by
  refine enter1 (args := [v, .int .i64 k]) Try.func35 rfl rfl rfl rfl ?_
  refine sq <| rg <| ?_
  refine vl (asv (v := .int _ _) rfl) <| nl <| thn <| sq <| sq <| rg <| vl (asv (v := .int _ _) rfl) <| nl <| thn <| bk <| ?_
  refine lp (σ := Nat × List Value × Own) (fun s => [(0, v), (1, .int .i64 (k + 3 * (s.1 : Int))), (5, .int .i64 (s.1 : Int))]) (fun s w => s.1 ≤ ls.length ∧ OS 3 95 v ls.length s.2.1 s.2.2 ∧ K e w G (s.2.2 ++ L)) (fun s => ls.length - s.1) (0, _, A) ⟨rfl, (by show Value.int .i64 k = Value.int .i64 (k + 3 * ((0 : Nat) : Int)); simp), rfl, trivial⟩ ⟨Nat.zero_le _, ho, hK⟩ ?_
  rintro ⟨i, cs, A⟩ g w ⟨hi, ho, hK⟩
  simp only at hi ho hK
  refine sq <| sq <| rg <| ?_
  refine vl (mvv (v := .int _ _) rfl) <| vl mv <| vl (ln Try.underlying24 rfl ho.len) <| vl (lt rfl rfl) <| nl <| thn <| ?_
  refine cdP rfl (fun hc => ?_) (fun hc => ?_)
  · have hi' : i < ls.length := by simp only at hc; omega
    refine sk <| thn <| sq <| bk <| sq <| rg <| ?_
    refine vl mv <| vl (mvv (v := .int _ _) rfl) <| vl (mvv (v := .int _ _) rfl) <| vl (ixn Try.underlying24 Ty.s95 rfl ho.slw rfl (by first | omega | (simp only; omega))) <| vl (fe Try.underlying95 rfl Ty.z3 rfl ho.slw (by first | omega | (simp only; omega))) <| ?_
    refine osSetC (i := i * 3 + 0) hK ho (by first | omega | (simp only; omega)) Ty.i3 rfl rfl rfl rfl fun A' w ho hK => ?_
    refine nl <| thn <| sq <| rg <| vl (mvv (v := .int _ _) rfl) <| vl (ad rfl rfl (by first | omega | (simp only; omega)) (by first | omega | (simp only; omega))) <| vl (asv (v := .int _ _) rfl) <| nl <| thn <| sq <| rg <| vl mv <| vl (mvv (v := .int _ _) rfl) <| vl (mvv (v := .int _ _) rfl) <| vl (ixn Try.underlying24 Ty.s95 rfl ho.slw rfl (by first | omega | (simp only; omega))) <| vl (fe Try.underlying95 rfl Ty.z3 rfl ho.slw (by first | omega | (simp only; omega))) <| ?_
    refine osSetC (i := i * 3 + 1) hK ho (by first | omega | (simp only; omega)) Ty.i3 rfl rfl rfl rfl fun A' w ho hK => ?_
    refine nl <| thn <| sq <| rg <| vl (mvv (v := .int _ _) rfl) <| vl (ad rfl rfl (by first | omega | (simp only; omega)) (by first | omega | (simp only; omega))) <| vl (asv (v := .int _ _) rfl) <| nl <| thn <| sq <| rg <| vl mv <| vl (mvv (v := .int _ _) rfl) <| vl (mvv (v := .int _ _) rfl) <| vl (ixn Try.underlying24 Ty.s95 rfl ho.slw rfl (by first | omega | (simp only; omega))) <| vl (fe Try.underlying95 rfl Ty.z3 rfl ho.slw (by first | omega | (simp only; omega))) <| ?_
    refine osSetC (i := i * 3 + 2) hK ho (by first | omega | (simp only; omega)) Ty.i3 rfl rfl rfl rfl fun A' w ho hK => ?_
    refine nl <| thn <| rg <| vl (mvv (v := .int _ _) rfl) <| vl (ad rfl rfl (by first | omega | (simp only; omega)) (by first | omega | (simp only; omega))) <| vl (asv (v := .int _ _) rfl) <| nl <| bkn <| thn <| rg <| vl (mvv (v := .int _ _) rfl) <| vl (ad rfl rfl (by first | omega | (simp only; omega)) (by first | omega | (simp only; omega))) <| vl (asv (v := .int _ _) rfl) <| nl <| thn <| ?_
    refine ⟨(i + 1, _, A'), ⟨rfl, ?_, rfl, trivial⟩, ⟨hi', ho, hK⟩, by simp only; omega⟩
    show Value.int .i64 (k + 3 * (i : Int) + 1 + 1 + 1) = Value.int .i64 (k + 3 * ((i + 1 : Nat) : Int))
    congr 1; omega
  · have : i = ls.length := by simp only at hc; omega
    subst this
    refine ex <| the <| the <| bkh <| thn <| sq <| rg <| ?_
    refine vl (mvv (v := .int _ _) rfl) <| vl (asv (v := .int _ _) rfl) <| nl <| thn <| rt <| p1r (a := .int _ _) rfl <| ?_
    exact ⟨rfl, A, hK⟩

theorem eqScan_o (hK : K e w G (A ++ L)) (ho : OS 1 3 t ts.length (ints ts) A) (hu : IntS G t2 us) :
    Ret Try.prog 33 #[.agg #[.int .i64 n, t], .agg #[.int .i64 m, t2]] w (fun r w' => r = .bool (decide (n = m ∧ ts = us)) ∧ K e w' G (A ++ L)) :=
  Ret.own hK fun hK' => eqScan_c hK' ho.ints (hu.mono hK.addV_le)
theorem markScan_c (hK : K e w G (A ++ L)) (ho : OS 1 3 t ts.length (ints ts) A) (hl : ts.length ≤ 1048576) (h0 : 0 ≤ k) (h1 : k ≤ 1000000000) :
    Ret Try.prog 37 #[.agg #[.int .i64 n, t], .int .i64 k] w (fun r w' => r = .int .i64 (k + ts.length) ∧ ∃ A', OS 1 3 t ts.length (ints (marks k ts.length)) A' ∧ K e w' G (A' ++ L)) := by
  refine enter1 (args := [.agg #[.int .i64 n, t], .int .i64 k]) Try.func37 rfl rfl rfl rfl ?_
  refine sq <| rg <| ?_
  refine bx hK rfl rfl ?_
  intro b2 w hK
  refine vl (asv (v := .int _ _) rfl) <| nl <| thn <| sq <| rg <| vl (fa Try.underlying27 rfl Ty.z22 rfl) <| vl (ldO hK Ty.o22 0 rfl rfl rfl) <| vl (mvv (v := .int _ _) rfl) <| ?_
  refine cl Try.call12 rfl (markIntS_c (K.mid1 hK) ho hl h0 h1) ?_
  rintro _ w ⟨rfl, A', ho', hK⟩
  refine vl (asv (v := .int _ _) rfl) <| nl <| thn <| sq <| rg <| vl (mvv (v := .int _ _) rfl) <| vl (asv (v := .int _ _) rfl) <| nl <| thn <| rt <| p1r (a := .int _ _) rfl <| ?_
  exact ⟨rfl, A', ho', (K.back1 hK).drop1⟩
theorem heldScan_o (hK : K e w G (A ++ L)) (ho : OS 1 3 t m.toNat (ints (marks k m.toNat)) A) (hl : m.toNat ≤ 1048576) (h0 : 0 ≤ k) (h1 : k ≤ 1000000000) :
    Ret Try.prog 41 #[.agg #[.int .i64 n, t], .int .i64 k] w (fun r w' => r = .int .i64 (k + m.toNat) ∧ K e w' G (A ++ L)) := by
  refine enter1 (args := [.agg #[.int .i64 n, t], .int .i64 k]) Try.func41 rfl rfl rfl rfl ?_
  refine sq <| rg <| ?_
  refine bx hK rfl rfl ?_
  intro b2 w hK
  refine vl (asv (v := .int _ _) rfl) <| nl <| thn <| sq <| rg <| vl (fa Try.underlying27 rfl Ty.z22 rfl) <| vl (ldO hK Ty.o22 0 rfl rfl rfl) <| vl (mvv (v := .int _ _) rfl) <| ?_
  refine cl Try.call42 rfl (heldIntS_o (n := m) (K.mid1 hK) ho hl h0 h1) ?_
  rintro _ w ⟨rfl, hK⟩
  refine vl (asv (v := .int _ _) rfl) <| nl <| thn <| sq <| sq <| rg <| vl (mvv (v := .int _ _) rfl) <| vl (lt rfl rfl) <| nl <| thn <| ?_
  refine cdP rfl (fun h => ?_) (fun h => ?_)
  · exfalso; omega
  · have _ := trivial
    refine sk <| thn <| sq <| rg <| ?_
    refine vl (mvv (v := .int _ _) rfl) <| vl (asv (v := .int _ _) rfl) <| nl <| thn <| rt <| p1r (a := .int _ _) rfl <| ?_
    exact ⟨rfl, (K.back1 hK).drop1⟩


end
end Go.Proofs.Ytjfjnmbgimfmaaa
