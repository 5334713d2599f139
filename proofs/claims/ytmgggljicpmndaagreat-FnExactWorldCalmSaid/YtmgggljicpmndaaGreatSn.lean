/- Contracts of the functions on leases and scans: what is valid. Conditions: those that each row states. -/
import Derived.Test.YtmgggljicpmndaaGreatCf
import Derived.Test.YtmgggljicpmndaaGreatLs
namespace Go.Proofs.YtmgggljicpmndaaGreat
open Go Go.Ro Tryz
def lc (x : Ls) : List Value := [.int .i64 x.1, .int .i64 x.2.1, .int .i64 x.2.2]
abbrev LeaS := SlR 3 (EF lc)
theorem LeaS.mono {G G' : View} {v : Value} {ls : List Ls} (h : LeaS G v ls) (hG : VLe G G') : LeaS G' v ls := EF.mono h hG
section
variable {e w : World} {G : View} {L : Own} {v u : Value} {xs ys ks : List Int} {ls : List Ls}
theorem l1Nodes_c (hK : K e w G L) (hv : IntS G v xs) : Ret prog 51 #[v] w (fun r w' => r = .bool (dec (Asc xs)) ∧ K e w' G L) := by
 have hle := hv.le
 refine enter1 (args := [v]) func51 rfl rfl rfl rfl ?_
 refine sq <| rg <| ?_
 refine vl (aB rfl) <| nl <| thn <| sq <| sq <| rg <| vl (aI rfl) <| nl <| thn <| bk <| ?_
 refine lp (σ := Nat) (fun i => [(0, v), (3, .int .i64 (i : Int))]) (fun i w => i ≤ xs.length ∧ Asc (xs.take i) ∧ K e w G L) (fun i => xs.length - i) 0 ⟨rfl, rfl, trivial⟩ ⟨Nat.zero_le _, by simpa using Asc.nil, hK⟩ ?_
 rintro i g w ⟨hi, ha, hK⟩
 refine sq <| sq <| rg <| ?_
 refine vl (mI rfl) <| vl mv <| vl (ln underlying25 rfl hv.len) <| vl (lt rfl rfl) <| nl <| thn <| ?_
 refine cdP rfl (fun hc => ?_) fun hc => ?_
 ·have hi' : i < xs.length := by omega
  refine sk <| thn <| sq <| bk <| sq <| ?_
  refine rgq (fun w => K _ w _ _) Ty.mixed kr (hK.drawn _) ?_
  refine qv (fun w hK => mv) <| qv (fun w hK => (mI rfl)) <| qv (fun w hK => (ixn1 underlying25 Ty.s3 rfl hv.1 rfl om)) <| qldV Ty.o3 rfl (hv.at om) <| ?_
  refine qcl call84 rfl (fun w hK => l1Point_c (C := fun w => K _ w _ _) hK) ?_
  refine qv (fun w hK => (nt rfl)) <| qv (fun w hK => (mB rfl)) <| ?_
  refine qsplP (t := 16) rfl (fun h1 => ?_) fun h1 => ?_
  ·refine qgn rfl <| qgn rfl <| qgn rfl <| qgu rfl <| qgu rfl <| qgu rfl <| qgu rfl <| qgu rfl <| qgu rfl <| qgu rfl <| qgu rfl <| qgu rfl <| qgu rfl <| qgn rfl <| qv (fun w hK => (pk rfl)) <| qn <| ?_
   intro w hK
   refine thn <| ?_
   refine cdt rfl ?_
   refine sq <| rg <| ?_
   refine vl (aB rfl) <| nl <| thn <| rt <| bkr <| thr <| thr <| bkr <| thr <| p1r (a := .bool _) rfl <| ?_
   exact ⟨by rw [dec_f]; intro h; exact h1 (h.pt hi'), hK⟩
  ·have h1' : Pt xs[i] := Decidable.not_not.1 h1
   refine qgy rfl <| qv (fun w hK => (mI rfl)) <| qgy rfl <| qv (fun w hK => (gt rfl rfl)) <| qgy rfl <| qv (fun w hK => (mB rfl)) <| ?_
   refine qsplP (t := 19) rfl (fun h2 => ?_) fun h2 => ?_
   ·refine qgy rfl <| qv (fun w hK => mv) <| qgy rfl <| qv (fun w hK => (mI rfl)) <| qgy rfl <| qv (fun w hK => (sb rfl rfl)) <| qgy rfl <| qv (fun w hK => (ixm1 (m := i - 1) underlying25 Ty.s3 rfl hv.1 rfl om om)) <| qgy rfl <| qldV Ty.o3 rfl (hv.at om) <| qgy rfl <| qv (fun w hK => mv) <| qgy rfl <| qv (fun w hK => (mI rfl)) <| qgy rfl <| qv (fun w hK => (ixn1 underlying25 Ty.s3 rfl hv.1 rfl om)) <| qgy rfl <| qldV Ty.o3 rfl (hv.at om) <| qgy rfl <| qv (fun w hK => (ge rfl rfl)) <| qgy rfl <| qv (fun w hK => (pk rfl)) <| qv (fun w hK => (pk rfl)) <| qn <| ?_
    intro w hK
    refine thn <| ?_
    refine cdP rfl (fun h3 => ?_) fun h3 => ?_
    ·refine sq <| rg <| ?_
     refine vl (aB rfl) <| nl <| thn <| rt <| bkr <| thr <| thr <| bkr <| thr <| p1r (a := .bool _) rfl <| ?_
     exact ⟨by rw [dec_f]; intro h; have := h.lt hi' (by omega); omega, hK⟩
    ·refine sk <| bkn <| thn <| rg <| ?_
     refine vl (mI rfl) <| vl (ad rfl rfl) <| vl (aI rfl) <| nl <| thn <| ?_
     exact ⟨i + 1, ⟨rfl, rfl, trivial⟩, ⟨hi', ha.snoc hi' h1' (fun _ => by omega), hK⟩, by omega⟩
   ·refine qgn rfl <| qgn rfl <| qgn rfl <| qgn rfl <| qgn rfl <| qgn rfl <| qgn rfl <| qgn rfl <| qgn rfl <| qgn rfl <| qgy rfl <| qv (fun w hK => (pk rfl)) <| qv (fun w hK => (pk rfl)) <| qn <| ?_
    intro w hK
    refine thn <| ?_
    refine cdf rfl ?_
    refine sk <| bkn <| thn <| rg <| ?_
    refine vl (mI rfl) <| vl (ad rfl rfl) <| vl (aI rfl) <| nl <| thn <| ?_
    exact ⟨i + 1, ⟨rfl, rfl, trivial⟩, ⟨hi', ha.snoc hi' h1' (fun h => by omega), hK⟩, by omega⟩
 ·have hi' : i = xs.length := by omega
  subst hi'
  refine ex <| the <| the <| bkh <| thn <| sq <| rg <| ?_
  refine vl (aB rfl) <| nl <| thn <| rt <| p1r (a := .bool _) rfl <| ?_
  exact ⟨by rw [List.take_length] at ha; rw [dec_t ha], hK⟩
theorem ascendingPositions_c (hK : K e w G L) (hv : IntS G v xs) : Ret prog 65 #[v] w (fun r w' => r = .bool (dec (Asc xs)) ∧ K e w' G L) := by
 have hle := hv.le
 refine enter1 (args := [v]) func65 rfl rfl rfl rfl ?_
 refine sq <| rg <| ?_
 refine vl (aB rfl) <| nl <| thn <| sq <| sq <| rg <| vl mv <| vl (ln underlying25 rfl hv.len) <| vl (mI rfl) <| nl <| thn <| bk <| ?_
 refine lp (σ := Nat) (fun i => [(0, v), (5, v), (6, .int .i64 (xs.length : Int)), (7, .int .i64 (i : Int))]) (fun i w => i ≤ xs.length ∧ Asc (xs.take i) ∧ K e w G L) (fun i => xs.length - i) 0 ⟨rfl, rfl, rfl, rfl, trivial⟩ ⟨Nat.zero_le _, by simpa using Asc.nil, hK⟩ ?_
 rintro i g w ⟨hi, ha, hK⟩
 refine sq <| rg <| ?_
 refine vl (lt rfl rfl) <| nl <| thn <| sq <| ?_
 refine cdP rfl (fun hc => ?_) fun hc => ?_
 ·have hi' : i < xs.length := by omega
  refine sk <| thn <| sq <| bk <| sq <| rg <| ?_
  refine vl (mI rfl) <| vl (ixn1 underlying25 Ty.s3 rfl hv.1 rfl om) <| vl (ldV hK Ty.o3 rfl (hv.at om)) <| vl (aI rfl) <| vl (aI rfl) <| nl <| thn <| sq <| rg <| vl (mI rfl) <| ?_
  refine cl call94 rfl (posok_c (C := fun w => K _ w _ _) hK) ?_
  rintro _ w ⟨rfl, hK⟩
  refine vl (nt rfl) <| vl (mB rfl) <| ?_
  refine splP (t := 15) rfl (fun h1 => ?_) fun h1 => ?_
  ·refine gn rfl <| gn rfl <| gn rfl <| gu rfl <| gu rfl <| gu rfl <| gu rfl <| gu rfl <| gu rfl <| gu rfl <| gn rfl <| vl (pk rfl) <| nl <| thn <| ?_
   refine cdt rfl ?_
   refine sq <| rg <| ?_
   refine vl (aB rfl) <| nl <| thn <| rt <| bkr <| thr <| thr <| bkr <| thr <| p1r (a := .bool _) rfl <| ?_
   exact ⟨by rw [dec_f]; intro h; exact h1 (h.pt hi'), hK⟩
  ·have h1' : Pt xs[i] := Decidable.not_not.1 h1
   refine gy rfl <| vl (mI rfl) <| gy rfl <| vl (gt rfl rfl) <| gy rfl <| vl (mB rfl) <| ?_
   refine splP (t := 18) rfl (fun h2 => ?_) fun h2 => ?_
   ·refine gy rfl <| vl mv <| gy rfl <| vl (mI rfl) <| gy rfl <| vl (sb rfl rfl) <| gy rfl <| vl (ixm1 (m := i - 1) underlying25 Ty.s3 rfl hv.1 rfl om om) <| gy rfl <| vl (ldV hK Ty.o3 rfl (hv.at om)) <| gy rfl <| vl (mI rfl) <| gy rfl <| vl (ge rfl rfl) <| gy rfl <| vl (pk rfl) <| vl (pk rfl) <| nl <| thn <| ?_
    refine cdP rfl (fun h3 => ?_) fun h3 => ?_
    ·refine sq <| rg <| ?_
     refine vl (aB rfl) <| nl <| thn <| rt <| bkr <| thr <| thr <| bkr <| thr <| p1r (a := .bool _) rfl <| ?_
     exact ⟨by rw [dec_f]; intro h; have := h.lt hi' (by omega); omega, hK⟩
    ·refine sk <| bkn <| thn <| rg <| ?_
     refine vl (ad rfl rfl) <| vl (mI rfl) <| nl <| thn <| ?_
     exact ⟨i + 1, ⟨rfl, rfl, rfl, rfl, trivial⟩, ⟨hi', ha.snoc hi' h1' (fun _ => by omega), hK⟩, by omega⟩
   ·refine gn rfl <| gn rfl <| gn rfl <| gn rfl <| gn rfl <| gn rfl <| gn rfl <| gy rfl <| vl (pk rfl) <| vl (pk rfl) <| nl <| thn <| ?_
    refine cdf rfl ?_
    refine sk <| bkn <| thn <| rg <| ?_
    refine vl (ad rfl rfl) <| vl (mI rfl) <| nl <| thn <| ?_
    exact ⟨i + 1, ⟨rfl, rfl, rfl, rfl, trivial⟩, ⟨hi', ha.snoc hi' h1' (fun h => by omega), hK⟩, by omega⟩
 ·have hi' : i = xs.length := by omega
  subst hi'
  refine ex <| the <| the <| bkh <| thn <| sq <| rg <| ?_
  refine vl (aB rfl) <| nl <| thn <| rt <| p1r (a := .bool _) rfl <| ?_
  exact ⟨by rw [List.take_length] at ha; rw [dec_t ha], hK⟩
theorem l12Time_c {C : World → Prop} (hK : C w) {n : Int} : Ret prog 46 #[.int .i64 n] w (fun r w' => r = .bool (decide (0 ≤ n ∧ n ≤ 999)) ∧ C w') := by
 refine enter1 (args := [.int .i64 n]) func46 rfl rfl rfl rfl ?_
 refine sq <| rg <| ?_
 refine vl (aB rfl) <| nl <| thn <| sq <| rg <| vl (mI rfl) <| ?_
 refine cl call81 rfl (l6In_c (C := C) hK) ?_
 rintro _ w ⟨rfl, hK⟩
 refine vl (aB rfl) <| nl <| thn <| rt <| p1r (a := .bool _) rfl <| ?_
 exact ⟨rfl, hK⟩
theorem positions_c (hK : K e w G L) (hv : IntS G v xs) : Ret prog 93 #[v] w (fun r w' => r = .bool (dec (∀ x ∈ xs, Pt x)) ∧ K e w' G L) := by
 have hle := hv.le
 refine enter1 (args := [v]) func93 rfl rfl rfl rfl ?_
 refine sq <| rg <| ?_
 refine vl (aB rfl) <| nl <| thn <| sq <| sq <| rg <| vl mv <| vl (ln underlying25 rfl hv.len) <| vl (mI rfl) <| nl <| thn <| bk <| ?_
 refine lp (σ := Nat) (fun i => [(5, v), (6, .int .i64 (xs.length : Int)), (7, .int .i64 (i : Int))]) (fun i w => i ≤ xs.length ∧ (∀ x ∈ xs.take i, Pt x) ∧ K e w G L) (fun i => xs.length - i) 0 ⟨rfl, rfl, rfl, trivial⟩ ⟨Nat.zero_le _, by simp, hK⟩ ?_
 rintro i g w ⟨hi, ha, hK⟩
 refine sq <| rg <| ?_
 refine vl (lt rfl rfl) <| nl <| thn <| sq <| ?_
 refine cdP rfl (fun hc => ?_) fun hc => ?_
 ·have hi' : i < xs.length := by omega
  refine sk <| thn <| sq <| bk <| sq <| rg <| ?_
  refine vl (ixn1 underlying25 Ty.s3 rfl hv.1 rfl om) <| vl (ldV hK Ty.o3 rfl (hv.at om)) <| vl (aI rfl) <| nl <| thn <| sq <| rg <| vl (mI rfl) <| ?_
  refine cl call94 rfl (posok_c (C := fun w => K _ w _ _) hK) ?_
  rintro _ w ⟨rfl, hK⟩
  refine vl (nt rfl) <| nl <| thn <| ?_
  refine cdP rfl (fun h1 => ?_) fun h1 => ?_
  ·refine sq <| rg <| ?_
   refine vl (aB rfl) <| nl <| thn <| rt <| bkr <| thr <| thr <| bkr <| thr <| p1r (a := .bool _) rfl <| ?_
   exact ⟨by rw [dec_f]; intro h; exact h1 (h _ (List.getElem_mem hi')), hK⟩
  ·refine sk <| bkn <| thn <| rg <| ?_
   refine vl (ad rfl rfl) <| vl (mI rfl) <| nl <| thn <| ?_
   exact ⟨i + 1, ⟨rfl, rfl, rfl, trivial⟩, ⟨hi', all_snoc hi' ha (Decidable.not_not.1 h1), hK⟩, by omega⟩
 ·have hi' : i = xs.length := by omega
  subst hi'
  refine ex <| the <| the <| bkh <| thn <| sq <| rg <| ?_
  refine vl (aB rfl) <| nl <| thn <| rt <| p1r (a := .bool _) rfl <| ?_
  exact ⟨by rw [List.take_length] at ha; rw [dec_t ha], hK⟩
theorem positions_o {b t : Nat} (hK : K e w G ((b, row (ints xs) t) :: L)) (hl : Nat.ble xs.length 1000 = true) :
  Ret prog 93 #[.slice (some ⟨b, 0, none⟩) xs.length xs.length] w (fun r w' => r = .bool (dec (∀ x ∈ xs, Pt x)) ∧ K e w' G ((b, row (ints xs) t) :: L)) :=
 Ret.own (A := [(b, row (ints xs) t)]) hK fun hK => positions_c hK (OS.ints (OS.lit (by simp) (by have := Nat.le_of_ble_eq_true hl; omega)))
theorem times1_c {C : World → Prop} (hK : C w) {n : Int} : Ret prog 88 #[.int .i64 n] w (fun r w' => r = .bool (decide (¬ (0 ≤ n ∧ n ≤ 999))) ∧ C w') := by
 refine enter1 (args := [.int .i64 n]) func88 rfl rfl rfl rfl ?_
 refine sq <| rg <| ?_
 refine vl (aB rfl) <| nl <| thn <| sq <| rg <| vl (mI rfl) <| ?_
 refine cl call68 rfl (inRange_c (C := C) hK) ?_
 rintro _ w ⟨rfl, hK⟩
 refine vl (nt rfl) <| vl (aB rfl) <| nl <| thn <| rt <| p1r (a := .bool _) rfl <| ?_
 exact ⟨rfl, hK⟩
theorem times_c (hK : K e w G L) (hv : IntS G v xs) : Ret prog 61 #[v] w (fun r w' => r = .bool (dec (∀ x ∈ xs, Tm x)) ∧ K e w' G L) := by
 refine enter1 (args := [v]) func61 rfl rfl rfl rfl ?_
 refine sq <| rg <| ?_
 refine vl (aB rfl) <| nl <| thn <| sq <| rg <| vl mv <| ?_
 refine cl call87 rfl (containsFunc_c (cap := []) (q := fun n => decide (¬ (0 ≤ n ∧ n ≤ 999))) call88 hK hv (fun x w hK => times1_c hK)) ?_
 rintro _ w ⟨⟨b, rfl, hb⟩, hK⟩
 refine vl (ntB rfl) <| vl (aB rfl) <| nl <| thn <| rt <| p1r (a := .bool _) rfl <| ?_
 refine ⟨?_, hK⟩
 cases b
 ·rw [dec_t]; rfl
  intro x hx
  refine Decidable.not_not.1 fun h => ?_
  exact Bool.false_ne_true (hb.2 ⟨x, hx, decide_eq_true h⟩)
 ·rw [dec_f]; rfl
  intro h
  obtain ⟨x, hx, h1⟩ := hb.1 rfl
  exact of_decide_eq_true h1 (h x hx)
theorem times_o {b t : Nat} (hK : K e w G ((b, row (ints xs) t) :: L)) (hl : Nat.ble xs.length 1000 = true) :
  Ret prog 61 #[.slice (some ⟨b, 0, none⟩) xs.length xs.length] w (fun r w' => r = .bool (dec (∀ x ∈ xs, Tm x)) ∧ K e w' G ((b, row (ints xs) t) :: L)) :=
 Ret.own (A := [(b, row (ints xs) t)]) hK fun hK => times_c hK (OS.ints (OS.lit (by simp) (by have := Nat.le_of_ble_eq_true hl; omega)))
theorem specLeasesValid_c (hK : K e w G L) (hv : LeaS G v ls) : Ret prog 48 #[v] w (fun r w' => r = .bool (dec (LsOk ls)) ∧ K e w' G L) := by
 have hle := hv.le
 refine enter1 (args := [v]) func48 rfl rfl rfl rfl ?_
 refine sq <| rg <| ?_
 refine vl (aB rfl) <| nl <| thn <| sq <| sq <| rg <| vl (aI rfl) <| nl <| thn <| bk <| ?_
 refine lp (σ := Nat) (fun i => [(0, v), (3, .int .i64 (i : Int))]) (fun i w => i ≤ ls.length ∧ LsTo ls i ∧ K e w G L) (fun i => ls.length - i) 0 ⟨rfl, rfl, trivial⟩ ⟨Nat.zero_le _, LsTo.zero, hK⟩ ?_
 rintro i g w ⟨hi, ha, hK⟩
 refine sq <| sq <| rg <| ?_
 refine vl (mI rfl) <| vl mv <| vl (ln underlying32 rfl hv.len) <| vl (lt rfl rfl) <| nl <| thn <| ?_
 refine cdP rfl (fun hc => ?_) fun hc => ?_
 ·have hi' : i < ls.length := by omega
  refine sk <| thn <| sq <| bk <| sq <| ?_
  refine rgq (fun w => K _ w _ _) Ty.mixed kr (hK.drawn _) ?_
  refine qv (fun w hK => mv) <| qv (fun w hK => (mI rfl)) <| qv (fun w hK => (ixn underlying32 Ty.s78 rfl hv.1 rfl om)) <| qv (fun w hK => (fe underlying78 rfl Ty.z3 rfl hv.1 om)) <| qldV Ty.o3 rfl (hv.cell om 0 rfl) <| ?_
  refine qcl call84 rfl (fun w hK => l1Point_c (C := fun w => K _ w _ _) hK) ?_
  refine qv (fun w hK => (nt rfl)) <| qv (fun w hK => (mB rfl)) <| ?_
  refine qsplP (t := 17) rfl (fun h1 => ?_) fun h1 => ?_
  ·refine qgn rfl <| qgn rfl <| qgn rfl <| qgn rfl <| qgn rfl <| qgn rfl <| qgn rfl <| qv (fun w hK => (pk rfl)) <| qv (fun w hK => (mB rfl)) <| qgn rfl <| qgn rfl <| qgn rfl <| qgn rfl <| qgn rfl <| qgn rfl <| qgn rfl <| qv (fun w hK => (pk rfl)) <| qv (fun w hK => (mB rfl)) <| qgn rfl <| qgn rfl <| qgn rfl <| qgu rfl <| qgu rfl <| qgu rfl <| qgu rfl <| qgu rfl <| qgu rfl <| qgu rfl <| qgu rfl <| qgu rfl <| qgu rfl <| qgu rfl <| qgu rfl <| qgn rfl <| qv (fun w hK => (pk rfl)) <| qn <| ?_
   intro w hK
   refine thn <| ?_
   refine cdt rfl ?_
   refine sq <| rg <| ?_
   refine vl (aB rfl) <| nl <| thn <| rt <| bkr <| thr <| thr <| bkr <| thr <| p1r (a := .bool _) rfl <| ?_
   exact ⟨by rw [dec_f]; intro h; exact h1 (h.at hi').1, hK⟩
  ·have h1' : Pt ls[i].1 := Decidable.not_not.1 h1
   refine qgy rfl <| qv (fun w hK => mv) <| qgy rfl <| qv (fun w hK => (mI rfl)) <| qgy rfl <| qv (fun w hK => (ixn underlying32 Ty.s78 rfl hv.1 rfl om)) <| qgy rfl <| qv (fun w hK => (fe underlying78 rfl Ty.z3 rfl hv.1 om)) <| qgy rfl <| qldV Ty.o3 rfl (hv.cell om 1 rfl) <| qgy rfl <| ?_
   refine qcl call84 rfl (fun w hK => l1Point_c (C := fun w => K _ w _ _) hK) ?_
   refine qgy rfl <| qv (fun w hK => (nt rfl)) <| qv (fun w hK => (pk rfl)) <| qv (fun w hK => (mB rfl)) <| ?_
   refine qsplP (t := 26) rfl (fun h2 => ?_) fun h2 => ?_
   ·refine qgn rfl <| qgn rfl <| qgn rfl <| qgn rfl <| qgn rfl <| qgn rfl <| qgn rfl <| qv (fun w hK => (pk rfl)) <| qv (fun w hK => (mB rfl)) <| qgn rfl <| qgn rfl <| qgn rfl <| qgu rfl <| qgu rfl <| qgu rfl <| qgu rfl <| qgu rfl <| qgu rfl <| qgu rfl <| qgu rfl <| qgu rfl <| qgu rfl <| qgu rfl <| qgu rfl <| qgn rfl <| qv (fun w hK => (pk rfl)) <| qn <| ?_
    intro w hK
    refine thn <| ?_
    refine cdt rfl ?_
    refine sq <| rg <| ?_
    refine vl (aB rfl) <| nl <| thn <| rt <| bkr <| thr <| thr <| bkr <| thr <| p1r (a := .bool _) rfl <| ?_
    exact ⟨by rw [dec_f]; intro h; exact h2 (h.at hi').2.1, hK⟩
   ·have h2' : Pt ls[i].2.1 := Decidable.not_not.1 h2
    refine qgy rfl <| qv (fun w hK => mv) <| qgy rfl <| qv (fun w hK => (mI rfl)) <| qgy rfl <| qv (fun w hK => (ixn underlying32 Ty.s78 rfl hv.1 rfl om)) <| qgy rfl <| qv (fun w hK => (fe underlying78 rfl Ty.z3 rfl hv.1 om)) <| qgy rfl <| qldV Ty.o3 rfl (hv.cell om 2 rfl) <| qgy rfl <| ?_
    refine qcl call46 rfl (fun w hK => l12Time_c (C := fun w => K _ w _ _) hK) ?_
    refine qgy rfl <| qv (fun w hK => (nt rfl)) <| qv (fun w hK => (pk rfl)) <| qv (fun w hK => (mB rfl)) <| ?_
    refine qsplP (t := 35) rfl (fun h3 => ?_) fun h3 => ?_
    ·refine qgn rfl <| qgn rfl <| qgn rfl <| qgu rfl <| qgu rfl <| qgu rfl <| qgu rfl <| qgu rfl <| qgu rfl <| qgu rfl <| qgu rfl <| qgu rfl <| qgu rfl <| qgu rfl <| qgu rfl <| qgn rfl <| qv (fun w hK => (pk rfl)) <| qn <| ?_
     intro w hK
     refine thn <| ?_
     refine cdt rfl ?_
     refine sq <| rg <| ?_
     refine vl (aB rfl) <| nl <| thn <| rt <| bkr <| thr <| thr <| bkr <| thr <| p1r (a := .bool _) rfl <| ?_
     exact ⟨by rw [dec_f]; intro h; exact h3 (h.at hi').2.2, hK⟩
    ·have h3' : Tm ls[i].2.2 := Decidable.not_not.1 h3
     refine qgy rfl <| qv (fun w hK => (mI rfl)) <| qgy rfl <| qv (fun w hK => (gt rfl rfl)) <| qgy rfl <| qv (fun w hK => (mB rfl)) <| ?_
     refine qsplP (t := 38) rfl (fun h4 => ?_) fun h4 => ?_
     ·refine qgy rfl <| qv (fun w hK => mv) <| qgy rfl <| qv (fun w hK => (mI rfl)) <| qgy rfl <| qv (fun w hK => (sb rfl rfl)) <| qgy rfl <| qv (fun w hK => (ixm (m := i - 1) underlying32 Ty.s78 rfl hv.1 rfl om om)) <| qgy rfl <| qv (fun w hK => (fe underlying78 rfl Ty.z3 rfl hv.1 om)) <| qgy rfl <| qldV Ty.o3 rfl (hv.cell om 0 rfl) <| qgy rfl <| qv (fun w hK => mv) <| qgy rfl <| qv (fun w hK => (mI rfl)) <| qgy rfl <| qv (fun w hK => (ixn underlying32 Ty.s78 rfl hv.1 rfl om)) <| qgy rfl <| qv (fun w hK => (fe underlying78 rfl Ty.z3 rfl hv.1 om)) <| qgy rfl <| qldV Ty.o3 rfl (hv.cell om 0 rfl) <| qgy rfl <| qv (fun w hK => (ge rfl rfl)) <| qgy rfl <| qv (fun w hK => (pk rfl)) <| qv (fun w hK => (pk rfl)) <| qn <| ?_
      intro w hK
      refine thn <| ?_
      refine cdP rfl (fun h5 => ?_) fun h5 => ?_
      ·refine sq <| rg <| ?_
       refine vl (aB rfl) <| nl <| thn <| rt <| bkr <| thr <| thr <| bkr <| thr <| p1r (a := .bool _) rfl <| ?_
       exact ⟨by rw [dec_f]; intro h; have := h.lt hi' (by omega); omega, hK⟩
      ·refine sk <| bkn <| thn <| rg <| ?_
       refine vl (mI rfl) <| vl (ad rfl rfl) <| vl (aI rfl) <| nl <| thn <| ?_
       exact ⟨i + 1, ⟨rfl, rfl, trivial⟩, ⟨hi', ha.snoc hi' ⟨h1', h2', h3'⟩ (fun _ => by omega), hK⟩, by omega⟩
     ·refine qgn rfl <| qgn rfl <| qgn rfl <| qgn rfl <| qgn rfl <| qgn rfl <| qgn rfl <| qgn rfl <| qgn rfl <| qgn rfl <| qgn rfl <| qgn rfl <| qgy rfl <| qv (fun w hK => (pk rfl)) <| qv (fun w hK => (pk rfl)) <| qn <| ?_
      intro w hK
      refine thn <| ?_
      refine cdf rfl ?_
      refine sk <| bkn <| thn <| rg <| ?_
      refine vl (mI rfl) <| vl (ad rfl rfl) <| vl (aI rfl) <| nl <| thn <| ?_
      exact ⟨i + 1, ⟨rfl, rfl, trivial⟩, ⟨hi', ha.snoc hi' ⟨h1', h2', h3'⟩ (fun h => by omega), hK⟩, by omega⟩
 ·have hi' : i = ls.length := by omega
  subst hi'
  refine ex <| the <| the <| bkh <| thn <| sq <| rg <| ?_
  refine vl mv <| vl (ln underlying32 rfl hv.len) <| ?_
  refine cl call81 rfl (l6In_c (C := fun w => K _ w _ _) hK) ?_
  rintro _ w ⟨rfl, hK⟩
  refine vl (aB rfl) <| nl <| thn <| rt <| p1r (a := .bool _) rfl <| ?_
  refine ⟨?_, hK⟩
  rw [← dec_dec]
  congr 1
  exact dec_congr ⟨fun h => ⟨by omega, ha.all⟩, fun h => by have := h.1; omega⟩
theorem implLeasesValid_c (hK : K e w G L) (hv : LeaS G v ls) : Ret prog 63 #[v] w (fun r w' => r = .bool (dec (LsOk ls)) ∧ K e w' G L) := by
 have hle := hv.le
 refine enter1 (args := [v]) func63 rfl rfl rfl rfl ?_
 refine sq <| rg <| ?_
 refine vl (aB rfl) <| nl <| thn <| sq <| sq <| rg <| vl mv <| vl (ln underlying32 rfl hv.len) <| ?_
 refine cl call68 rfl (inRange_c (C := fun w => K _ w _ _) hK) ?_
 rintro _ w ⟨rfl, hK⟩
 refine vl (nt rfl) <| nl <| thn <| ?_
 refine cdP rfl (fun h0 => ?_) fun h0 => ?_
 ·refine sq <| rg <| ?_
  refine vl (aB rfl) <| nl <| thn <| rt <| thr <| p1r (a := .bool _) rfl <| ?_
  exact ⟨by rw [dec_f]; intro h; exact h0 (by have := h.1; omega), hK⟩
 ·have h0' : 1 ≤ ls.length ∧ ls.length ≤ 12 := by omega
  refine sk <| thn <| sq <| sq <| rg <| ?_
  refine vl mv <| vl (ln underlying32 rfl hv.len) <| vl (mI rfl) <| nl <| thn <| bk <| ?_
  refine lp (σ := Nat) (fun i => [(0, v), (9, v), (10, .int .i64 (ls.length : Int)), (11, .int .i64 (i : Int))]) (fun i w => i ≤ ls.length ∧ LsTo ls i ∧ K e w G L) (fun i => ls.length - i) 0 ⟨rfl, rfl, rfl, rfl, trivial⟩ ⟨Nat.zero_le _, LsTo.zero, hK⟩ ?_
  rintro i g w ⟨hi, ha, hK⟩
  refine sq <| rg <| ?_
  refine vl (lt rfl rfl) <| nl <| thn <| sq <| ?_
  refine cdP rfl (fun hc => ?_) fun hc => ?_
  ·have hi' : i < ls.length := by omega
   refine sk <| thn <| sq <| bk <| sq <| rg <| ?_
   refine vl (mI rfl) <| vl (ixn underlying32 Ty.s78 rfl hv.1 rfl om) <| vl (lsF hK Ty.a78 Ty.s78 rfl hv om) <| ?_
   refine al hK Ty.i78 rfl ?_
   intro b4 w hK
   refine vl (aI rfl) <| ?_
   refine soS hK Ty.i78 0 rfl rfl rfl rfl rfl rfl ?_
   intro w hK
   refine nl <| thn <| sq <| ?_
   refine rgx (fun w => K _ w _ _) [U,U,U,U,U,U,U,U,U,U,U,U,U,U,U,U,U,U,U,U,U,U,U,U,U,U,U,U,U] 29 Ty.mixed rfl rfl (hK.drawn _) ?_
   intro w hK
   refine xt (i := 0) rfl kr rfl rfl (fun w hK => (fa underlying78 rfl Ty.z3 rfl)) hK <| xt (i := 1) rfl kr rfl rfl (fun w hK => (ldO hK Ty.o3 0 rfl rfl rfl)) hK <| xt (i := 2) rfl kr rfl rfl (fun w hK => (fa underlying78 rfl Ty.z3 rfl)) hK <| xt (i := 3) rfl kr rfl rfl (fun w hK => (ldO hK Ty.o3 0 rfl rfl rfl)) hK <| ?_
   refine xe (i := 4) kr rfl rfl ?_
   refine bsN [.tmp 17, .tmp 19] hK underlying25 Ty.i3 rfl rfl rfl rfl rfl rfl rfl rfl ?_
   intro b20 w hK
   refine xn (fun w => K _ w _ _) hK (fun w hK => (by first | exact hK | exact K.drop1 hK)) ?_
   refine xe (i := 5) kr rfl rfl ?_
   refine cl call93 rfl (positions_o (xs := [ls[i].1, ls[i].2.1]) hK rfl) ?_
   rintro _ w ⟨rfl, hK⟩
   refine xn (fun w => K _ w _ _) hK (fun w hK => (by first | exact hK | exact K.drop1 hK)) ?_
   refine xt (i := 6) rfl kr rfl rfl (fun w hK => (ntB rfl)) hK <| xt (i := 7) rfl kr rfl rfl (fun w hK => (mB rfl)) hK <| ?_
   refine xspl (t := 23) rfl (fun h1 => ?_) fun h1 => ?_
   ·refine xu (i := 8) rfl kr rfl rfl hK <| xu (i := 9) rfl kr rfl rfl hK <| xu (i := 10) rfl kr rfl rfl hK <| xu (i := 11) rfl kr rfl rfl hK <| xu (i := 12) rfl kr rfl rfl hK <| xt (i := 13) rfl kr rfl rfl (fun w hK => (pk rfl)) hK <| xt (i := 14) rfl kr rfl rfl (fun w hK => (mB rfl)) hK <| xu (i := 15) rfl kr rfl rfl hK <| xu (i := 16) rfl kr rfl rfl hK <| xu (i := 17) rfl kr rfl rfl hK <| xu (i := 18) rfl kr rfl rfl hK <| xu (i := 19) rfl kr rfl rfl hK <| xu (i := 20) rfl kr rfl rfl hK <| xu (i := 21) rfl kr rfl rfl hK <| xu (i := 22) rfl kr rfl rfl hK <| xu (i := 23) rfl kr rfl rfl hK <| xu (i := 24) rfl kr rfl rfl hK <| xu (i := 25) rfl kr rfl rfl hK <| xu (i := 26) rfl kr rfl rfl hK <| xu (i := 27) rfl kr rfl rfl hK <| xt (i := 28) rfl kr rfl rfl (fun w hK => (pk rfl)) hK <| xd kr <| thn <| ?_
    refine cdt rfl ?_
    refine sq <| rg <| ?_
    refine vl (aB rfl) <| nl <| thn <| rt <| bkr <| thr <| thr <| bkr <| thr <| p1r (a := .bool _) rfl <| ?_
    exact ⟨by rw [dec_f]; intro h; simp at h1; exact not_dec h1 ⟨(h.at hi').1, (h.at hi').2.1⟩, hK.drop1.drop1⟩
   ·simp at h1
    have h1' := of_dec h1
    refine xt (i := 8) rfl kr rfl rfl (fun w hK => (fa underlying78 rfl Ty.z3 rfl)) hK <| xt (i := 9) rfl kr rfl rfl (fun w hK => (ldO hK Ty.o3 1 rfl rfl rfl)) hK <| ?_
    refine xe (i := 10) kr rfl rfl ?_
    refine gy rfl <| ?_
    refine bsN [.tmp 25] hK underlying25 Ty.i3 rfl rfl rfl rfl rfl rfl rfl rfl ?_
    intro b26 w hK
    refine xn (fun w => K _ w _ _) hK (fun w hK => (by first | exact hK | exact K.drop1 hK)) ?_
    refine xe (i := 11) kr rfl rfl ?_
    refine gy rfl <| ?_
    refine cl call61 rfl (times_o (xs := [ls[i].2.2]) hK rfl) ?_
    rintro _ w ⟨rfl, hK⟩
    refine xn (fun w => K _ w _ _) hK (fun w hK => (by first | exact hK | exact K.drop1 hK)) ?_
    refine xt (i := 12) rfl kr rfl rfl (fun w hK => (ntB rfl)) hK <| xt (i := 13) rfl kr rfl rfl (fun w hK => (pk rfl)) hK <| xt (i := 14) rfl kr rfl rfl (fun w hK => (mB rfl)) hK <| ?_
    refine xspl (t := 30) rfl (fun h2 => ?_) fun h2 => ?_
    ·refine xu (i := 15) rfl kr rfl rfl hK <| xu (i := 16) rfl kr rfl rfl hK <| xu (i := 17) rfl kr rfl rfl hK <| xu (i := 18) rfl kr rfl rfl hK <| xu (i := 19) rfl kr rfl rfl hK <| xu (i := 20) rfl kr rfl rfl hK <| xu (i := 21) rfl kr rfl rfl hK <| xu (i := 22) rfl kr rfl rfl hK <| xu (i := 23) rfl kr rfl rfl hK <| xu (i := 24) rfl kr rfl rfl hK <| xu (i := 25) rfl kr rfl rfl hK <| xu (i := 26) rfl kr rfl rfl hK <| xu (i := 27) rfl kr rfl rfl hK <| xt (i := 28) rfl kr rfl rfl (fun w hK => (pk rfl)) hK <| xd kr <| thn <| ?_
     refine cdt rfl ?_
     refine sq <| rg <| ?_
     refine vl (aB rfl) <| nl <| thn <| rt <| bkr <| thr <| thr <| bkr <| thr <| p1r (a := .bool _) rfl <| ?_
     exact ⟨by rw [dec_f]; intro h; simp at h2; exact not_dec h2 (h.at hi').2.2, hK.drop1.drop1.drop1⟩
    ·simp at h2
     have h2' := of_dec h2
     have hx : Pt ls[i].1 ∧ Pt ls[i].2.1 ∧ Tm ls[i].2.2 := ⟨h1'.1, h1'.2, h2'⟩
     refine xt (i := 15) rfl kr rfl rfl (fun w hK => (mI rfl)) hK <| xt (i := 16) rfl kr rfl rfl (fun w hK => (gt rfl rfl)) hK <| xt (i := 17) rfl kr rfl rfl (fun w hK => (mB rfl)) hK <| ?_
     refine xsplP (t := 33) rfl (fun h4 => ?_) fun h4 => ?_
     ·refine xt (i := 18) rfl kr rfl rfl (fun w hK => mv) hK <| xt (i := 19) rfl kr rfl rfl (fun w hK => (mI rfl)) hK <| xt (i := 20) rfl kr rfl rfl (fun w hK => (sb rfl rfl)) hK <| xt (i := 21) rfl kr rfl rfl (fun w hK => (ixm (m := i - 1) underlying32 Ty.s78 rfl hv.1 rfl om om)) hK <| xt (i := 22) rfl kr rfl rfl (fun w hK => (fe underlying78 rfl Ty.z3 rfl hv.1 om)) hK <| xt (i := 23) rfl kr rfl rfl (fun w hK => (ldV hK Ty.o3 rfl (by exact hv.cell om 0 rfl))) hK <| xt (i := 24) rfl kr rfl rfl (fun w hK => (fa underlying78 rfl Ty.z3 rfl)) hK <| xt (i := 25) rfl kr rfl rfl (fun w hK => (ldO hK Ty.o3 2 rfl rfl rfl)) hK <| xt (i := 26) rfl kr rfl rfl (fun w hK => (ge rfl rfl)) hK <| xt (i := 27) rfl kr rfl rfl (fun w hK => (pk rfl)) hK <| xt (i := 28) rfl kr rfl rfl (fun w hK => (pk rfl)) hK <| xd kr <| thn <| ?_
      refine cdP rfl (fun h5 => ?_) fun h5 => ?_
      ·refine sq <| rg <| ?_
       refine vl (aB rfl) <| nl <| thn <| rt <| bkr <| thr <| thr <| bkr <| thr <| p1r (a := .bool _) rfl <| ?_
       exact ⟨by rw [dec_f]; intro h; have := h.lt hi' (by omega); omega, hK.drop1.drop1.drop1⟩
      ·refine sk <| bkn <| thn <| rg <| ?_
       refine vl (ad rfl rfl) <| vl (mI rfl) <| nl <| thn <| ?_
       exact ⟨i + 1, ⟨rfl, rfl, rfl, rfl, trivial⟩, ⟨hi', ha.snoc hi' hx (fun _ => by omega), hK.drop1.drop1.drop1⟩, by omega⟩
     ·refine xu (i := 18) rfl kr rfl rfl hK <| xu (i := 19) rfl kr rfl rfl hK <| xu (i := 20) rfl kr rfl rfl hK <| xu (i := 21) rfl kr rfl rfl hK <| xu (i := 22) rfl kr rfl rfl hK <| xu (i := 23) rfl kr rfl rfl hK <| xu (i := 24) rfl kr rfl rfl hK <| xu (i := 25) rfl kr rfl rfl hK <| xu (i := 26) rfl kr rfl rfl hK <| xt (i := 27) rfl kr rfl rfl (fun w hK => (pk rfl)) hK <| xt (i := 28) rfl kr rfl rfl (fun w hK => (pk rfl)) hK <| xd kr <| thn <| ?_
      refine cdf rfl ?_
      refine sk <| bkn <| thn <| rg <| ?_
      refine vl (ad rfl rfl) <| vl (mI rfl) <| nl <| thn <| ?_
      exact ⟨i + 1, ⟨rfl, rfl, rfl, rfl, trivial⟩, ⟨hi', ha.snoc hi' hx (fun h => by omega), hK.drop1.drop1.drop1⟩, by omega⟩
  ·have hi' : i = ls.length := by omega
   subst hi'
   refine ex <| the <| the <| bkh <| thn <| sq <| rg <| ?_
   refine vl (aB rfl) <| nl <| thn <| rt <| p1r (a := .bool _) rfl <| ?_
   exact ⟨by rw [dec_t ⟨h0', ha.all⟩], hK⟩
end
end Go.Proofs.YtmgggljicpmndaaGreat