/- Contracts of the functions on leases and scans: what is valid. Conditions: those that each row states. -/
import Derived.Test.YtmgggljicpmndaaGreatDoorCf
import Derived.Test.YtmgggljicpmndaaGreatDoorLs
namespace Go.Proofs.YtmgggljicpmndaaGreatDoor
open Go Go.Ro Tryz
def lc (x : Ls) : List Value := [.int .i64 x.1, .int .i64 x.2.1, .int .i64 x.2.2]
abbrev LeaS := SlR 3 (EF lc)
theorem LeaS.mono {G G' : View} {v : Value} {ls : List Ls} (h : LeaS G v ls) (hG : VLe G G') : LeaS G' v ls := EF.mono h hG
section
variable {e w : World} {G : View} {L : Own} {v u : Value} {xs ys ks : List Int} {ls : List Ls}
theorem l1Nodes_c (hK : K e w G L) (hv : IntS G v xs) : Ret prog 76 #[v] w (fun r w' => r = .bool (dec (Asc xs)) ∧ K e w' G L) := by
 have hle := hv.le
 refine enter1 (args := [v]) func76 rfl rfl rfl rfl ?_
 refine sq <| rg <| ?_
 refine vl (aB rfl) <| nl <| thn <| sq <| sq <| rg <| vl (aI rfl) <| nl <| thn <| bk <| ?_
 refine lp (σ := Nat) (fun i => [(0, v), (3, .int .i64 (i : Int))]) (fun i w => i ≤ xs.length ∧ Asc (xs.take i) ∧ K e w G L) (fun i => xs.length - i) 0 ⟨rfl, rfl, trivial⟩ ⟨Nat.zero_le _, by simpa using Asc.nil, hK⟩ ?_
 rintro i g w ⟨hi, ha, hK⟩
 refine sq <| sq <| rg <| ?_
 refine vl (mI rfl) <| vl mv <| vl (ln underlying22 rfl hv.len) <| vl (lt rfl rfl) <| nl <| thn <| ?_
 refine cdP rfl (fun hc => ?_) fun hc => ?_
 ·have hi' : i < xs.length := by omega
  refine sk <| thn <| sq <| bk <| sq <| ?_
  refine rgq (fun w => K _ w _ _) Ty.mixed kr (hK.drawn _) ?_
  refine qv (fun w hK => mv) <| qv (fun w hK => (mI rfl)) <| qv (fun w hK => (ixn1 underlying22 Ty.s3 rfl hv.1 rfl om)) <| qldV Ty.o3 rfl (hv.at om) <| ?_
  refine qcl call99 rfl (fun w hK => l1Point_c (C := fun w => K _ w _ _) hK) ?_
  refine qv (fun w hK => (nt rfl)) <| qv (fun w hK => (mB rfl)) <| ?_
  refine qsplP (t := 16) rfl (fun h1 => ?_) fun h1 => ?_
  ·refine qgn rfl <| qgn rfl <| qgn rfl <| qgu rfl <| qgu rfl <| qgu rfl <| qgu rfl <| qgu rfl <| qgu rfl <| qgu rfl <| qgu rfl <| qgu rfl <| qgu rfl <| qgn rfl <| qv (fun w hK => (pk rfl)) <| qn <| ?_
   intro w hK
   refine thn <| ?_
   refine cdt rfl ?_
   refine sq <| rg <| ?_
   refine vl (aB rfl) <| nl <| thn <| rt <| bkr <| thr <| thr <| bkr <| thr <| p1r (a := .bool _) rfl <| ?_
   exact ⟨by rw [dec_f]; intro h; exact h1 (h.pt hi'), hK⟩
  ·have h1' : Pt xs[i] := Decidable.not_not.1 h1
   refine qgy rfl <| qv (fun w hK => (mI rfl)) <| qgy rfl <| qv (fun w hK => (gt rfl rfl)) <| qgy rfl <| qv (fun w hK => (mB rfl)) <| ?_
   refine qsplP (t := 19) rfl (fun h2 => ?_) fun h2 => ?_
   ·refine qgy rfl <| qv (fun w hK => mv) <| qgy rfl <| qv (fun w hK => (mI rfl)) <| qgy rfl <| qv (fun w hK => (sb rfl rfl)) <| qgy rfl <| qv (fun w hK => (ixm1 (m := i - 1) underlying22 Ty.s3 rfl hv.1 rfl om om)) <| qgy rfl <| qldV Ty.o3 rfl (hv.at om) <| qgy rfl <| qv (fun w hK => mv) <| qgy rfl <| qv (fun w hK => (mI rfl)) <| qgy rfl <| qv (fun w hK => (ixn1 underlying22 Ty.s3 rfl hv.1 rfl om)) <| qgy rfl <| qldV Ty.o3 rfl (hv.at om) <| qgy rfl <| qv (fun w hK => (ge rfl rfl)) <| qgy rfl <| qv (fun w hK => (pk rfl)) <| qv (fun w hK => (pk rfl)) <| qn <| ?_
    intro w hK
    refine thn <| ?_
    refine cdP rfl (fun h3 => ?_) fun h3 => ?_
    ·refine sq <| rg <| ?_
     refine vl (aB rfl) <| nl <| thn <| rt <| bkr <| thr <| thr <| bkr <| thr <| p1r (a := .bool _) rfl <| ?_
     exact ⟨by rw [dec_f]; intro h; have := h.lt hi' (by omega); omega, hK⟩
    ·refine sk <| bkn <| thn <| rg <| ?_
     refine vl (mI rfl) <| vl (ad rfl rfl) <| vl (aI rfl) <| nl <| thn <| ?_
     exact ⟨i + 1, ⟨rfl, rfl, trivial⟩, ⟨hi', ha.snoc hi' h1' (fun _ => by omega), hK⟩, by omega⟩
   ·refine qgn rfl <| qgn rfl <| qgn rfl <| qgn rfl <| qgn rfl <| qgn rfl <| qgn rfl <| qgn rfl <| qgn rfl <| qgn rfl <| qgy rfl <| qv (fun w hK => (pk rfl)) <| qv (fun w hK => (pk rfl)) <| qn <| ?_
    intro w hK
    refine thn <| ?_
    refine cdf rfl ?_
    refine sk <| bkn <| thn <| rg <| ?_
    refine vl (mI rfl) <| vl (ad rfl rfl) <| vl (aI rfl) <| nl <| thn <| ?_
    exact ⟨i + 1, ⟨rfl, rfl, trivial⟩, ⟨hi', ha.snoc hi' h1' (fun h => by omega), hK⟩, by omega⟩
 ·have hi' : i = xs.length := by omega
  subst hi'
  refine ex <| the <| the <| bkh <| thn <| sq <| rg <| ?_
  refine vl (aB rfl) <| nl <| thn <| rt <| p1r (a := .bool _) rfl <| ?_
  exact ⟨by rw [List.take_length] at ha; rw [dec_t ha], hK⟩
theorem ascendingPositions_c (hK : K e w G L) (hv : IntS G v xs) : Ret prog 86 #[v] w (fun r w' => r = .bool (dec (Asc xs)) ∧ K e w' G L) := by
 have hle := hv.le
 refine enter1 (args := [v]) func86 rfl rfl rfl rfl ?_
 refine sq <| rg <| ?_
 refine vl (aB rfl) <| nl <| thn <| sq <| sq <| rg <| vl mv <| vl (ln underlying22 rfl hv.len) <| vl (mI rfl) <| nl <| thn <| bk <| ?_
 refine lp (σ := Nat) (fun i => [(0, v), (5, v), (6, .int .i64 (xs.length : Int)), (7, .int .i64 (i : Int))]) (fun i w => i ≤ xs.length ∧ Asc (xs.take i) ∧ K e w G L) (fun i => xs.length - i) 0 ⟨rfl, rfl, rfl, rfl, trivial⟩ ⟨Nat.zero_le _, by simpa using Asc.nil, hK⟩ ?_
 rintro i g w ⟨hi, ha, hK⟩
 refine sq <| rg <| ?_
 refine vl (lt rfl rfl) <| nl <| thn <| sq <| ?_
 refine cdP rfl (fun hc => ?_) fun hc => ?_
 ·have hi' : i < xs.length := by omega
  refine sk <| thn <| sq <| bk <| sq <| rg <| ?_
  refine vl (mI rfl) <| vl (ixn1 underlying22 Ty.s3 rfl hv.1 rfl om) <| vl (ldV hK Ty.o3 rfl (hv.at om)) <| vl (aI rfl) <| vl (aI rfl) <| nl <| thn <| sq <| rg <| vl (mI rfl) <| ?_
  refine cl call137 rfl (posok_c (C := fun w => K _ w _ _) hK) ?_
  rintro _ w ⟨rfl, hK⟩
  refine vl (nt rfl) <| vl (mB rfl) <| ?_
  refine splP (t := 15) rfl (fun h1 => ?_) fun h1 => ?_
  ·refine gn rfl <| gn rfl <| gn rfl <| gu rfl <| gu rfl <| gu rfl <| gu rfl <| gu rfl <| gu rfl <| gu rfl <| gn rfl <| vl (pk rfl) <| nl <| thn <| ?_
   refine cdt rfl ?_
   refine sq <| rg <| ?_
   refine vl (aB rfl) <| nl <| thn <| rt <| bkr <| thr <| thr <| bkr <| thr <| p1r (a := .bool _) rfl <| ?_
   exact ⟨by rw [dec_f]; intro h; exact h1 (h.pt hi'), hK⟩
  ·have h1' : Pt xs[i] := Decidable.not_not.1 h1
   refine gy rfl <| vl (mI rfl) <| gy rfl <| vl (gt rfl rfl) <| gy rfl <| vl (mB rfl) <| ?_
   refine splP (t := 18) rfl (fun h2 => ?_) fun h2 => ?_
   ·refine gy rfl <| vl mv <| gy rfl <| vl (mI rfl) <| gy rfl <| vl (sb rfl rfl) <| gy rfl <| vl (ixm1 (m := i - 1) underlying22 Ty.s3 rfl hv.1 rfl om om) <| gy rfl <| vl (ldV hK Ty.o3 rfl (hv.at om)) <| gy rfl <| vl (mI rfl) <| gy rfl <| vl (ge rfl rfl) <| gy rfl <| vl (pk rfl) <| vl (pk rfl) <| nl <| thn <| ?_
    refine cdP rfl (fun h3 => ?_) fun h3 => ?_
    ·refine sq <| rg <| ?_
     refine vl (aB rfl) <| nl <| thn <| rt <| bkr <| thr <| thr <| bkr <| thr <| p1r (a := .bool _) rfl <| ?_
     exact ⟨by rw [dec_f]; intro h; have := h.lt hi' (by omega); omega, hK⟩
    ·refine sk <| bkn <| thn <| rg <| ?_
     refine vl (ad rfl rfl) <| vl (mI rfl) <| nl <| thn <| ?_
     exact ⟨i + 1, ⟨rfl, rfl, rfl, rfl, trivial⟩, ⟨hi', ha.snoc hi' h1' (fun _ => by omega), hK⟩, by omega⟩
   ·refine gn rfl <| gn rfl <| gn rfl <| gn rfl <| gn rfl <| gn rfl <| gn rfl <| gy rfl <| vl (pk rfl) <| vl (pk rfl) <| nl <| thn <| ?_
    refine cdf rfl ?_
    refine sk <| bkn <| thn <| rg <| ?_
    refine vl (ad rfl rfl) <| vl (mI rfl) <| nl <| thn <| ?_
    exact ⟨i + 1, ⟨rfl, rfl, rfl, rfl, trivial⟩, ⟨hi', ha.snoc hi' h1' (fun h => by omega), hK⟩, by omega⟩
 ·have hi' : i = xs.length := by omega
  subst hi'
  refine ex <| the <| the <| bkh <| thn <| sq <| rg <| ?_
  refine vl (aB rfl) <| nl <| thn <| rt <| p1r (a := .bool _) rfl <| ?_
  exact ⟨by rw [List.take_length] at ha; rw [dec_t ha], hK⟩
theorem l12Time_c {C : World → Prop} (hK : C w) {n : Int} : Ret prog 71 #[.int .i64 n] w (fun r w' => r = .bool (decide (0 ≤ n ∧ n ≤ 999)) ∧ C w') := by
 refine enter1 (args := [.int .i64 n]) func71 rfl rfl rfl rfl ?_
 refine sq <| rg <| ?_
 refine vl (aB rfl) <| nl <| thn <| sq <| rg <| vl (mI rfl) <| ?_
 refine cl call104 rfl (l6In_c (C := C) hK) ?_
 rintro _ w ⟨rfl, hK⟩
 refine vl (aB rfl) <| nl <| thn <| rt <| p1r (a := .bool _) rfl <| ?_
 exact ⟨rfl, hK⟩
theorem positions_c (hK : K e w G L) (hv : IntS G v xs) : Ret prog 136 #[v] w (fun r w' => r = .bool (dec (∀ x ∈ xs, Pt x)) ∧ K e w' G L) := by
 have hle := hv.le
 refine enter1 (args := [v]) func136 rfl rfl rfl rfl ?_
 refine sq <| rg <| ?_
 refine vl (aB rfl) <| nl <| thn <| sq <| sq <| rg <| vl mv <| vl (ln underlying22 rfl hv.len) <| vl (mI rfl) <| nl <| thn <| bk <| ?_
 refine lp (σ := Nat) (fun i => [(5, v), (6, .int .i64 (xs.length : Int)), (7, .int .i64 (i : Int))]) (fun i w => i ≤ xs.length ∧ (∀ x ∈ xs.take i, Pt x) ∧ K e w G L) (fun i => xs.length - i) 0 ⟨rfl, rfl, rfl, trivial⟩ ⟨Nat.zero_le _, by simp, hK⟩ ?_
 rintro i g w ⟨hi, ha, hK⟩
 refine sq <| rg <| ?_
 refine vl (lt rfl rfl) <| nl <| thn <| sq <| ?_
 refine cdP rfl (fun hc => ?_) fun hc => ?_
 ·have hi' : i < xs.length := by omega
  refine sk <| thn <| sq <| bk <| sq <| rg <| ?_
  refine vl (ixn1 underlying22 Ty.s3 rfl hv.1 rfl om) <| vl (ldV hK Ty.o3 rfl (hv.at om)) <| vl (aI rfl) <| nl <| thn <| sq <| rg <| vl (mI rfl) <| ?_
  refine cl call137 rfl (posok_c (C := fun w => K _ w _ _) hK) ?_
  rintro _ w ⟨rfl, hK⟩
  refine vl (nt rfl) <| nl <| thn <| ?_
  refine cdP rfl (fun h1 => ?_) fun h1 => ?_
  ·refine sq <| rg <| ?_
   refine vl (aB rfl) <| nl <| thn <| rt <| bkr <| thr <| thr <| bkr <| thr <| p1r (a := .bool _) rfl <| ?_
   exact ⟨by rw [dec_f]; intro h; exact h1 (h _ (List.getElem_mem hi')), hK⟩
  ·refine sk <| bkn <| thn <| rg <| ?_
   refine vl (ad rfl rfl) <| vl (mI rfl) <| nl <| thn <| ?_
   exact ⟨i + 1, ⟨rfl, rfl, rfl, trivial⟩, ⟨hi', all_snoc hi' ha (Decidable.not_not.1 h1), hK⟩, by omega⟩
 ·have hi' : i = xs.length := by omega
  subst hi'
  refine ex <| the <| the <| bkh <| thn <| sq <| rg <| ?_
  refine vl (aB rfl) <| nl <| thn <| rt <| p1r (a := .bool _) rfl <| ?_
  exact ⟨by rw [List.take_length] at ha; rw [dec_t ha], hK⟩
theorem positions_o {b t : Nat} (hK : K e w G ((b, row (ints xs) t) :: L)) (hl : Nat.ble xs.length 1000 = true) :
  Ret prog 136 #[.slice (some ⟨b, 0, none⟩) xs.length xs.length] w (fun r w' => r = .bool (dec (∀ x ∈ xs, Pt x)) ∧ K e w' G ((b, row (ints xs) t) :: L)) :=
 Ret.own (A := [(b, row (ints xs) t)]) hK fun hK => positions_c hK (OS.ints (OS.lit (by simp) (by have := Nat.le_of_ble_eq_true hl; omega)))
theorem times1_c {C : World → Prop} (hK : C w) {n : Int} : Ret prog 131 #[.int .i64 n] w (fun r w' => r = .bool (decide (¬ (0 ≤ n ∧ n ≤ 999))) ∧ C w') := by
 refine enter1 (args := [.int .i64 n]) func131 rfl rfl rfl rfl ?_
 refine sq <| rg <| ?_
 refine vl (aB rfl) <| nl <| thn <| sq <| rg <| vl (mI rfl) <| ?_
 refine cl call89 rfl (inRange_c (C := C) hK) ?_
 rintro _ w ⟨rfl, hK⟩
 refine vl (nt rfl) <| vl (aB rfl) <| nl <| thn <| rt <| p1r (a := .bool _) rfl <| ?_
 exact ⟨rfl, hK⟩
theorem times_c (hK : K e w G L) (hv : IntS G v xs) : Ret prog 82 #[v] w (fun r w' => r = .bool (dec (∀ x ∈ xs, Tm x)) ∧ K e w' G L) := by
 refine enter1 (args := [v]) func82 rfl rfl rfl rfl ?_
 refine sq <| rg <| ?_
 refine vl (aB rfl) <| nl <| thn <| sq <| rg <| vl mv <| ?_
 refine cl call130 rfl (containsFunc_c (cap := []) (q := fun n => decide (¬ (0 ≤ n ∧ n ≤ 999))) call131 hK hv (fun x w hK => times1_c hK)) ?_
 rintro _ w ⟨⟨b, rfl, hb⟩, hK⟩
 refine vl (ntB rfl) <| vl (aB rfl) <| nl <| thn <| rt <| p1r (a := .bool _) rfl <| ?_
 refine ⟨?_, hK⟩
 cases b
 ·rw [dec_t]; rfl
  intro x hx
  refine Decidable.not_not.1 fun h => ?_
  exact Bool.false_ne_true (hb.2 ⟨x, hx, decide_eq_true h⟩)
 ·rw [dec_f]; rfl
  intro h
  obtain ⟨x, hx, h1⟩ := hb.1 rfl
  exact of_decide_eq_true h1 (h x hx)
theorem times_o {b t : Nat} (hK : K e w G ((b, row (ints xs) t) :: L)) (hl : Nat.ble xs.length 1000 = true) :
  Ret prog 82 #[.slice (some ⟨b, 0, none⟩) xs.length xs.length] w (fun r w' => r = .bool (dec (∀ x ∈ xs, Tm x)) ∧ K e w' G ((b, row (ints xs) t) :: L)) :=
 Ret.own (A := [(b, row (ints xs) t)]) hK fun hK => times_c hK (OS.ints (OS.lit (by simp) (by have := Nat.le_of_ble_eq_true hl; omega)))
theorem specLeasesValid_c (hK : K e w G L) (hv : LeaS G v ls) : Ret prog 73 #[v] w (fun r w' => r = .bool (dec (LsOk ls)) ∧ K e w' G L) := by
 have hle := hv.le
 refine enter1 (args := [v]) func73 rfl rfl rfl rfl ?_
 refine sq <| rg <| ?_
 refine vl (aB rfl) <| nl <| thn <| sq <| sq <| rg <| vl (aI rfl) <| nl <| thn <| bk <| ?_
 refine lp (σ := Nat) (fun i => [(0, v), (3, .int .i64 (i : Int))]) (fun i w => i ≤ ls.length ∧ LsTo ls i ∧ K e w G L) (fun i => ls.length - i) 0 ⟨rfl, rfl, trivial⟩ ⟨Nat.zero_le _, LsTo.zero, hK⟩ ?_
 rintro i g w ⟨hi, ha, hK⟩
 refine sq <| sq <| rg <| ?_
 refine vl (mI rfl) <| vl mv <| vl (ln underlying26 rfl hv.len) <| vl (lt rfl rfl) <| nl <| thn <| ?_
 refine cdP rfl (fun hc => ?_) fun hc => ?_
 ·have hi' : i < ls.length := by omega
  refine sk <| thn <| sq <| bk <| sq <| ?_
  refine rgq (fun w => K _ w _ _) Ty.mixed kr (hK.drawn _) ?_
  refine qv (fun w hK => mv) <| qv (fun w hK => (mI rfl)) <| qv (fun w hK => (ixn underlying26 Ty.s101 rfl hv.1 rfl om)) <| qv (fun w hK => (fe underlying101 rfl Ty.z3 rfl hv.1 om)) <| qldV Ty.o3 rfl (hv.cell om 0 rfl) <| ?_
  refine qcl call99 rfl (fun w hK => l1Point_c (C := fun w => K _ w _ _) hK) ?_
  refine qv (fun w hK => (nt rfl)) <| qv (fun w hK => (mB rfl)) <| ?_
  refine qsplP (t := 17) rfl (fun h1 => ?_) fun h1 => ?_
  ·refine qgn rfl <| qgn rfl <| qgn rfl <| qgn rfl <| qgn rfl <| qgn rfl <| qgn rfl <| qv (fun w hK => (pk rfl)) <| qv (fun w hK => (mB rfl)) <| qgn rfl <| qgn rfl <| qgn rfl <| qgn rfl <| qgn rfl <| qgn rfl <| qgn rfl <| qv (fun w hK => (pk rfl)) <| qv (fun w hK => (mB rfl)) <| qgn rfl <| qgn rfl <| qgn rfl <| qgu rfl <| qgu rfl <| qgu rfl <| qgu rfl <| qgu rfl <| qgu rfl <| qgu rfl <| qgu rfl <| qgu rfl <| qgu rfl <| qgu rfl <| qgu rfl <| qgn rfl <| qv (fun w hK => (pk rfl)) <| qn <| ?_
   intro w hK
   refine thn <| ?_
   refine cdt rfl ?_
   refine sq <| rg <| ?_
   refine vl (aB rfl) <| nl <| thn <| rt <| bkr <| thr <| thr <| bkr <| thr <| p1r (a := .bool _) rfl <| ?_
   exact ⟨by rw [dec_f]; intro h; exact h1 (h.at hi').1, hK⟩
  ·have h1' : Pt ls[i].1 := Decidable.not_not.1 h1
   refine qgy rfl <| qv (fun w hK => mv) <| qgy rfl <| qv (fun w hK => (mI rfl)) <| qgy rfl <| qv (fun w hK => (ixn underlying26 Ty.s101 rfl hv.1 rfl om)) <| qgy rfl <| qv (fun w hK => (fe underlying101 rfl Ty.z3 rfl hv.1 om)) <| qgy rfl <| qldV Ty.o3 rfl (hv.cell om 1 rfl) <| qgy rfl <| ?_
   refine qcl call99 rfl (fun w hK => l1Point_c (C := fun w => K _ w _ _) hK) ?_
   refine qgy rfl <| qv (fun w hK => (nt rfl)) <| qv (fun w hK => (pk rfl)) <| qv (fun w hK => (mB rfl)) <| ?_
   refine qsplP (t := 26) rfl (fun h2 => ?_) fun h2 => ?_
   ·refine qgn rfl <| qgn rfl <| qgn rfl <| qgn rfl <| qgn rfl <| qgn rfl <| qgn rfl <| qv (fun w hK => (pk rfl)) <| qv (fun w hK => (mB rfl)) <| qgn rfl <| qgn rfl <| qgn rfl <| qgu rfl <| qgu rfl <| qgu rfl <| qgu rfl <| qgu rfl <| qgu rfl <| qgu rfl <| qgu rfl <| qgu rfl <| qgu rfl <| qgu rfl <| qgu rfl <| qgn rfl <| qv (fun w hK => (pk rfl)) <| qn <| ?_
    intro w hK
    refine thn <| ?_
    refine cdt rfl ?_
    refine sq <| rg <| ?_
    refine vl (aB rfl) <| nl <| thn <| rt <| bkr <| thr <| thr <| bkr <| thr <| p1r (a := .bool _) rfl <| ?_
    exact ⟨by rw [dec_f]; intro h; exact h2 (h.at hi').2.1, hK⟩
   ·have h2' : Pt ls[i].2.1 := Decidable.not_not.1 h2
    refine qgy rfl <| qv (fun w hK => mv) <| qgy rfl <| qv (fun w hK => (mI rfl)) <| qgy rfl <| qv (fun w hK => (ixn underlying26 Ty.s101 rfl hv.1 rfl om)) <| qgy rfl <| qv (fun w hK => (fe underlying101 rfl Ty.z3 rfl hv.1 om)) <| qgy rfl <| qldV Ty.o3 rfl (hv.cell om 2 rfl) <| qgy rfl <| ?_
    refine qcl call71 rfl (fun w hK => l12Time_c (C := fun w => K _ w _ _) hK) ?_
    refine qgy rfl <| qv (fun w hK => (nt rfl)) <| qv (fun w hK => (pk rfl)) <| qv (fun w hK => (mB rfl)) <| ?_
    refine qsplP (t := 35) rfl (fun h3 => ?_) fun h3 => ?_
    ·refine qgn rfl <| qgn rfl <| qgn rfl <| qgu rfl <| qgu rfl <| qgu rfl <| qgu rfl <| qgu rfl <| qgu rfl <| qgu rfl <| qgu rfl <| qgu rfl <| qgu rfl <| qgu rfl <| qgu rfl <| qgn rfl <| qv (fun w hK => (pk rfl)) <| qn <| ?_
     intro w hK
     refine thn <| ?_
     refine cdt rfl ?_
     refine sq <| rg <| ?_
     refine vl (aB rfl) <| nl <| thn <| rt <| bkr <| thr <| thr <| bkr <| thr <| p1r (a := .bool _) rfl <| ?_
     exact ⟨by rw [dec_f]; intro h; exact h3 (h.at hi').2.2, hK⟩
    ·have h3' : Tm ls[i].2.2 := Decidable.not_not.1 h3
     refine qgy rfl <| qv (fun w hK => (mI rfl)) <| qgy rfl <| qv (fun w hK => (gt rfl rfl)) <| qgy rfl <| qv (fun w hK => (mB rfl)) <| ?_
     refine qsplP (t := 38) rfl (fun h4 => ?_) fun h4 => ?_
     ·refine qgy rfl <| qv (fun w hK => mv) <| qgy rfl <| qv (fun w hK => (mI rfl)) <| qgy rfl <| qv (fun w hK => (sb rfl rfl)) <| qgy rfl <| qv (fun w hK => (ixm (m := i - 1) underlying26 Ty.s101 rfl hv.1 rfl om om)) <| qgy rfl <| qv (fun w hK => (fe underlying101 rfl Ty.z3 rfl hv.1 om)) <| qgy rfl <| qldV Ty.o3 rfl (hv.cell om 0 rfl) <| qgy rfl <| qv (fun w hK => mv) <| qgy rfl <| qv (fun w hK => (mI rfl)) <| qgy rfl <| qv (fun w hK => (ixn underlying26 Ty.s101 rfl hv.1 rfl om)) <| qgy rfl <| qv (fun w hK => (fe underlying101 rfl Ty.z3 rfl hv.1 om)) <| qgy rfl <| qldV Ty.o3 rfl (hv.cell om 0 rfl) <| qgy rfl <| qv (fun w hK => (ge rfl rfl)) <| qgy rfl <| qv (fun w hK => (pk rfl)) <| qv (fun w hK => (pk rfl)) <| qn <| ?_
      intro w hK
      refine thn <| ?_
      refine cdP rfl (fun h5 => ?_) fun h5 => ?_
      ·refine sq <| rg <| ?_
       refine vl (aB rfl) <| nl <| thn <| rt <| bkr <| thr <| thr <| bkr <| thr <| p1r (a := .bool _) rfl <| ?_
       exact ⟨by rw [dec_f]; intro h; have := h.lt hi' (by omega); omega, hK⟩
      ·refine sk <| bkn <| thn <| rg <| ?_
       refine vl (mI rfl) <| vl (ad rfl rfl) <| vl (aI rfl) <| nl <| thn <| ?_
       exact ⟨i + 1, ⟨rfl, rfl, trivial⟩, ⟨hi', ha.snoc hi' ⟨h1', h2', h3'⟩ (fun _ => by omega), hK⟩, by omega⟩
     ·refine qgn rfl <| qgn rfl <| qgn rfl <| qgn rfl <| qgn rfl <| qgn rfl <| qgn rfl <| qgn rfl <| qgn rfl <| qgn rfl <| qgn rfl <| qgn rfl <| qgy rfl <| qv (fun w hK => (pk rfl)) <| qv (fun w hK => (pk rfl)) <| qn <| ?_
      intro w hK
      refine thn <| ?_
      refine cdf rfl ?_
      refine sk <| bkn <| thn <| rg <| ?_
      refine vl (mI rfl) <| vl (ad rfl rfl) <| vl (aI rfl) <| nl <| thn <| ?_
      exact ⟨i + 1, ⟨rfl, rfl, trivial⟩, ⟨hi', ha.snoc hi' ⟨h1', h2', h3'⟩ (fun h => by omega), hK⟩, by omega⟩
 ·have hi' : i = ls.length := by omega
  subst hi'
  refine ex <| the <| the <| bkh <| thn <| sq <| rg <| ?_
  refine vl mv <| vl (ln underlying26 rfl hv.len) <| ?_
  refine cl call104 rfl (l6In_c (C := fun w => K _ w _ _) hK) ?_
  rintro _ w ⟨rfl, hK⟩
  refine vl (aB rfl) <| nl <| thn <| rt <| p1r (a := .bool _) rfl <| ?_
  refine ⟨?_, hK⟩
  rw [← dec_dec]
  congr 1
  exact dec_congr ⟨fun h => ⟨by omega, ha.all⟩, fun h => by have := h.1; omega⟩
theorem implLeasesValid_c (hK : K e w G L) (hv : LeaS G v ls) : Ret prog 84 #[v] w (fun r w' => r = .bool (dec (LsOk ls)) ∧ K e w' G L) := by
 have hle := hv.le
 refine enter1 (args := [v]) func84 rfl rfl rfl rfl ?_
 refine sq <| rg <| ?_
 refine vl (aB rfl) <| nl <| thn <| sq <| sq <| rg <| vl mv <| vl (ln underlying26 rfl hv.len) <| ?_
 refine cl call89 rfl (inRange_c (C := fun w => K _ w _ _) hK) ?_
 rintro _ w ⟨rfl, hK⟩
 refine vl (nt rfl) <| nl <| thn <| ?_
 refine cdP rfl (fun h0 => ?_) fun h0 => ?_
 ·refine sq <| rg <| ?_
  refine vl (aB rfl) <| nl <| thn <| rt <| thr <| p1r (a := .bool _) rfl <| ?_
  exact ⟨by rw [dec_f]; intro h; exact h0 (by have := h.1; omega), hK⟩
 ·have h0' : 1 ≤ ls.length ∧ ls.length ≤ 12 := by omega
  refine sk <| thn <| sq <| sq <| rg <| ?_
  refine vl mv <| vl (ln underlying26 rfl hv.len) <| vl (mI rfl) <| nl <| thn <| bk <| ?_
  refine lp (σ := Nat) (fun i => [(0, v), (9, v), (10, .int .i64 (ls.length : Int)), (11, .int .i64 (i : Int))]) (fun i w => i ≤ ls.length ∧ LsTo ls i ∧ K e w G L) (fun i => ls.length - i) 0 ⟨rfl, rfl, rfl, rfl, trivial⟩ ⟨Nat.zero_le _, LsTo.zero, hK⟩ ?_
  rintro i g w ⟨hi, ha, hK⟩
  refine sq <| rg <| ?_
  refine vl (lt rfl rfl) <| nl <| thn <| sq <| ?_
  refine cdP rfl (fun hc => ?_) fun hc => ?_
  ·have hi' : i < ls.length := by omega
   refine sk <| thn <| sq <| bk <| sq <| rg <| ?_
   refine vl (mI rfl) <| vl (ixn underlying26 Ty.s101 rfl hv.1 rfl om) <| vl (lsF hK Ty.a101 Ty.s101 rfl hv om) <| ?_
   refine al hK Ty.i101 rfl ?_
   intro b4 w hK
   refine vl (aI rfl) <| ?_
   refine soS hK Ty.i101 0 rfl rfl rfl rfl rfl rfl ?_
   intro w hK
   refine nl <| thn <| sq <| ?_
   refine rgx (fun w => K _ w _ _) [U,U,U,U,U,U,U,U,U,U,U,U,U,U,U,U,U,U,U,U,U,U,U,U,U,U,U,U,U] 29 Ty.mixed rfl rfl (hK.drawn _) ?_
   intro w hK
   refine xt (i := 0) rfl kr rfl rfl (fun w hK => (fa underlying101 rfl Ty.z3 rfl)) hK <| xt (i := 1) rfl kr rfl rfl (fun w hK => (ldO hK Ty.o3 0 rfl rfl rfl)) hK <| xt (i := 2) rfl kr rfl rfl (fun w hK => (fa underlying101 rfl Ty.z3 rfl)) hK <| xt (i := 3) rfl kr rfl rfl (fun w hK => (ldO hK Ty.o3 0 rfl rfl rfl)) hK <| ?_
   refine xe (i := 4) kr rfl rfl ?_
   refine bsN [.tmp 17, .tmp 19] hK underlying22 Ty.i3 rfl rfl rfl rfl rfl rfl rfl rfl ?_
   intro b20 w hK
   refine xn (fun w => K _ w _ _) hK (fun w hK => (by first | exact hK | exact K.drop1 hK)) ?_
   refine xe (i := 5) kr rfl rfl ?_
   refine cl call136 rfl (positions_o (xs := [ls[i].1, ls[i].2.1]) hK rfl) ?_
   rintro _ w ⟨rfl, hK⟩
   refine xn (fun w => K _ w _ _) hK (fun w hK => (by first | exact hK | exact K.drop1 hK)) ?_
   refine xt (i := 6) rfl kr rfl rfl (fun w hK => (ntB rfl)) hK <| xt (i := 7) rfl kr rfl rfl (fun w hK => (mB rfl)) hK <| ?_
   refine xspl (t := 23) rfl (fun h1 => ?_) fun h1 => ?_
   ·refine xu (i := 8) rfl kr rfl rfl hK <| xu (i := 9) rfl kr rfl rfl hK <| xu (i := 10) rfl kr rfl rfl hK <| xu (i := 11) rfl kr rfl rfl hK <| xu (i := 12) rfl kr rfl rfl hK <| xt (i := 13) rfl kr rfl rfl (fun w hK => (pk rfl)) hK <| xt (i := 14) rfl kr rfl rfl (fun w hK => (mB rfl)) hK <| xu (i := 15) rfl kr rfl rfl hK <| xu (i := 16) rfl kr rfl rfl hK <| xu (i := 17) rfl kr rfl rfl hK <| xu (i := 18) rfl kr rfl rfl hK <| xu (i := 19) rfl kr rfl rfl hK <| xu (i := 20) rfl kr rfl rfl hK <| xu (i := 21) rfl kr rfl rfl hK <| xu (i := 22) rfl kr rfl rfl hK <| xu (i := 23) rfl kr rfl rfl hK <| xu (i := 24) rfl kr rfl rfl hK <| xu (i := 25) rfl kr rfl rfl hK <| xu (i := 26) rfl kr rfl rfl hK <| xu (i := 27) rfl kr rfl rfl hK <| xt (i := 28) rfl kr rfl rfl (fun w hK => (pk rfl)) hK <| xd kr <| thn <| ?_
    refine cdt rfl ?_
    refine sq <| rg <| ?_
    refine vl (aB rfl) <| nl <| thn <| rt <| bkr <| thr <| thr <| bkr <| thr <| p1r (a := .bool _) rfl <| ?_
    exact ⟨by rw [dec_f]; intro h; simp at h1; exact not_dec h1 ⟨(h.at hi').1, (h.at hi').2.1⟩, hK.drop1.drop1⟩
   ·simp at h1
    have h1' := of_dec h1
    refine xt (i := 8) rfl kr rfl rfl (fun w hK => (fa underlying101 rfl Ty.z3 rfl)) hK <| xt (i := 9) rfl kr rfl rfl (fun w hK => (ldO hK Ty.o3 1 rfl rfl rfl)) hK <| ?_
    refine xe (i := 10) kr rfl rfl ?_
    refine gy rfl <| ?_
    refine bsN [.tmp 25] hK underlying22 Ty.i3 rfl rfl rfl rfl rfl rfl rfl rfl ?_
    intro b26 w hK
    refine xn (fun w => K _ w _ _) hK (fun w hK => (by first | exact hK | exact K.drop1 hK)) ?_
    refine xe (i := 11) kr rfl rfl ?_
    refine gy rfl <| ?_
    refine cl call82 rfl (times_o (xs := [ls[i].2.2]) hK rfl) ?_
    rintro _ w ⟨rfl, hK⟩
    refine xn (fun w => K _ w _ _) hK (fun w hK => (by first | exact hK | exact K.drop1 hK)) ?_
    refine xt (i := 12) rfl kr rfl rfl (fun w hK => (ntB rfl)) hK <| xt (i := 13) rfl kr rfl rfl (fun w hK => (pk rfl)) hK <| xt (i := 14) rfl kr rfl rfl (fun w hK => (mB rfl)) hK <| ?_
    refine xspl (t := 30) rfl (fun h2 => ?_) fun h2 => ?_
    ·refine xu (i := 15) rfl kr rfl rfl hK <| xu (i := 16) rfl kr rfl rfl hK <| xu (i := 17) rfl kr rfl rfl hK <| xu (i := 18) rfl kr rfl rfl hK <| xu (i := 19) rfl kr rfl rfl hK <| xu (i := 20) rfl kr rfl rfl hK <| xu (i := 21) rfl kr rfl rfl hK <| xu (i := 22) rfl kr rfl rfl hK <| xu (i := 23) rfl kr rfl rfl hK <| xu (i := 24) rfl kr rfl rfl hK <| xu (i := 25) rfl kr rfl rfl hK <| xu (i := 26) rfl kr rfl rfl hK <| xu (i := 27) rfl kr rfl rfl hK <| xt (i := 28) rfl kr rfl rfl (fun w hK => (pk rfl)) hK <| xd kr <| thn <| ?_
     refine cdt rfl ?_
     refine sq <| rg <| ?_
     refine vl (aB rfl) <| nl <| thn <| rt <| bkr <| thr <| thr <| bkr <| thr <| p1r (a := .bool _) rfl <| ?_
     exact ⟨by rw [dec_f]; intro h; simp at h2; exact not_dec h2 (h.at hi').2.2, hK.drop1.drop1.drop1⟩
    ·simp at h2
     have h2' := of_dec h2
     have hx : Pt ls[i].1 ∧ Pt ls[i].2.1 ∧ Tm ls[i].2.2 := ⟨h1'.1, h1'.2, h2'⟩
     refine xt (i := 15) rfl kr rfl rfl (fun w hK => (mI rfl)) hK <| xt (i := 16) rfl kr rfl rfl (fun w hK => (gt rfl rfl)) hK <| xt (i := 17) rfl kr rfl rfl (fun w hK => (mB rfl)) hK <| ?_
     refine xsplP (t := 33) rfl (fun h4 => ?_) fun h4 => ?_
     ·refine xt (i := 18) rfl kr rfl rfl (fun w hK => mv) hK <| xt (i := 19) rfl kr rfl rfl (fun w hK => (mI rfl)) hK <| xt (i := 20) rfl kr rfl rfl (fun w hK => (sb rfl rfl)) hK <| xt (i := 21) rfl kr rfl rfl (fun w hK => (ixm (m := i - 1) underlying26 Ty.s101 rfl hv.1 rfl om om)) hK <| xt (i := 22) rfl kr rfl rfl (fun w hK => (fe underlying101 rfl Ty.z3 rfl hv.1 om)) hK <| xt (i := 23) rfl kr rfl rfl (fun w hK => (ldV hK Ty.o3 rfl (by exact hv.cell om 0 rfl))) hK <| xt (i := 24) rfl kr rfl rfl (fun w hK => (fa underlying101 rfl Ty.z3 rfl)) hK <| xt (i := 25) rfl kr rfl rfl (fun w hK => (ldO hK Ty.o3 2 rfl rfl rfl)) hK <| xt (i := 26) rfl kr rfl rfl (fun w hK => (ge rfl rfl)) hK <| xt (i := 27) rfl kr rfl rfl (fun w hK => (pk rfl)) hK <| xt (i := 28) rfl kr rfl rfl (fun w hK => (pk rfl)) hK <| xd kr <| thn <| ?_
      refine cdP rfl (fun h5 => ?_) fun h5 => ?_
      ·refine sq <| rg <| ?_
       refine vl (aB rfl) <| nl <| thn <| rt <| bkr <| thr <| thr <| bkr <| thr <| p1r (a := .bool _) rfl <| ?_
       exact ⟨by rw [dec_f]; intro h; have := h.lt hi' (by omega); omega, hK.drop1.drop1.drop1⟩
      ·refine sk <| bkn <| thn <| rg <| ?_
       refine vl (ad rfl rfl) <| vl (mI rfl) <| nl <| thn <| ?_
       exact ⟨i + 1, ⟨rfl, rfl, rfl, rfl, trivial⟩, ⟨hi', ha.snoc hi' hx (fun _ => by omega), hK.drop1.drop1.drop1⟩, by omega⟩
     ·refine xu (i := 18) rfl kr rfl rfl hK <| xu (i := 19) rfl kr rfl rfl hK <| xu (i := 20) rfl kr rfl rfl hK <| xu (i := 21) rfl kr rfl rfl hK <| xu (i := 22) rfl kr rfl rfl hK <| xu (i := 23) rfl kr rfl rfl hK <| xu (i := 24) rfl kr rfl rfl hK <| xu (i := 25) rfl kr rfl rfl hK <| xu (i := 26) rfl kr rfl rfl hK <| xt (i := 27) rfl kr rfl rfl (fun w hK => (pk rfl)) hK <| xt (i := 28) rfl kr rfl rfl (fun w hK => (pk rfl)) hK <| xd kr <| thn <| ?_
      refine cdf rfl ?_
      refine sk <| bkn <| thn <| rg <| ?_
      refine vl (ad rfl rfl) <| vl (mI rfl) <| nl <| thn <| ?_
      exact ⟨i + 1, ⟨rfl, rfl, rfl, rfl, trivial⟩, ⟨hi', ha.snoc hi' hx (fun h => by omega), hK.drop1.drop1.drop1⟩, by omega⟩
  ·have hi' : i = ls.length := by omega
   subst hi'
   refine ex <| the <| the <| bkh <| thn <| sq <| rg <| ?_
   refine vl (aB rfl) <| nl <| thn <| rt <| p1r (a := .bool _) rfl <| ?_
   exact ⟨by rw [dec_t ⟨h0', ha.all⟩], hK⟩
theorem l12At_c (hK : K e w G L) (hv : LeaS G v ls) {k : Int} : Ret prog 141 #[v, .int .i64 k] w (fun r w' => r = .int .i64 (lAt ls k : Int) ∧ K e w' G L) := by
 have hle := hv.le
 refine enter1 (args := [v, .int .i64 k]) func141 rfl rfl rfl rfl ?_
 refine sq <| rg <| ?_
 refine vl (aI rfl) <| nl <| thn <| sq <| sq <| rg <| vl (aI rfl) <| nl <| thn <| bk <| ?_
 refine lp (σ := Nat) (fun i => [(0, v), (1, .int .i64 k), (5, .int .i64 (i : Int))]) (fun i w => i ≤ ls.length ∧ (∀ x ∈ ls.take i, x.1 < k) ∧ K e w G L) (fun i => ls.length - i) 0 ⟨rfl, rfl, rfl, trivial⟩ ⟨Nat.zero_le _, by simp, hK⟩ ?_
 rintro i g w ⟨hi, ha, hK⟩
 refine sq <| sq <| rg <| ?_
 refine vl (mI rfl) <| vl mv <| vl (ln underlying26 rfl hv.len) <| vl (lt rfl rfl) <| nl <| thn <| ?_
 refine cdP rfl (fun hc => ?_) fun hc => ?_
 ·have hi' : i < ls.length := by omega
  refine sk <| thn <| sq <| bk <| sq <| rg <| ?_
  refine vl mv <| vl (mI rfl) <| vl (ixn underlying26 Ty.s101 rfl hv.1 rfl om) <| vl (fe underlying101 rfl Ty.z3 rfl hv.1 om) <| vl (ldV hK Ty.o3 rfl (hv.cell om 0 rfl)) <| vl (mI rfl) <| vl (ge rfl rfl) <| nl <| thn <| ?_
  refine cdP rfl (fun h1 => ?_) fun h1 => ?_
  ·refine sq <| rg <| ?_
   refine vl (mI rfl) <| vl (aI rfl) <| nl <| thn <| rt <| bkr <| thr <| thr <| bkr <| thr <| p1r (a := .int _ _) rfl <| ?_
   exact ⟨by rw [lAt_eq hi' ha h1], hK⟩
  ·refine sk <| bkn <| thn <| rg <| ?_
   refine vl (mI rfl) <| vl (ad rfl rfl) <| vl (aI rfl) <| nl <| thn <| ?_
   exact ⟨i + 1, ⟨rfl, rfl, rfl, trivial⟩, ⟨hi', all_snoc hi' ha (by omega), hK⟩, by omega⟩
 ·have hi' : i = ls.length := by omega
  subst hi'
  refine ex <| the <| the <| bkh <| thn <| sq <| rg <| ?_
  refine vl (aI rfl) <| nl <| thn <| rt <| p1r (a := .int _ _) rfl <| ?_
  rw [List.take_length] at ha
  exact ⟨by rw [lAt_none ha]; rfl, hK⟩
theorem leaseAt1_c {b t : Nat} {k : Int} (hK : K e w G L) (hn : (b, row [.int .i64 k] t) ∈ L) {x : Ls} :
  Ret prog 200 #[.agg (lc x).toArray, .pointer (some ⟨b, 0, none⟩)] w (fun r w' => r = .bool (decide (k ≤ x.1)) ∧ K e w' G L) := by
 refine enter1 (args := [.agg (lc x).toArray, .pointer (some ⟨b, 0, none⟩)]) func200 rfl rfl rfl rfl ?_
 refine sq <| rg <| ?_
 refine bx hK rfl rfl ?_
 intro b2 w hK
 refine vl (aB rfl) <| nl <| thn <| sq <| rg <| vl (fa underlying101 rfl Ty.z3 rfl) <| vl (ldO hK Ty.o3 0 rfl rfl rfl) <| vl (ldC Ty.o3 rfl (row_cell (l := [Value.int .i64 k]) (hK.own _ _ (List.mem_cons_of_mem _ hn)))) <| vl (ge rfl rfl) <| vl (aB rfl) <| nl <| thn <| rt <| p1r (a := .bool _) rfl <| ?_
 exact ⟨rfl, hK.drop1⟩
theorem indexFuncL_c {F : FuncId} {cap : List Value} {q : Ls → Bool} (hf : ∀ args w, (callFunc F args).run prog w = .ok (.enter F args) w) (hK : K e w G L) (hv : LeaS G v ls)
  (hp : ∀ x w, K e w G L → Ret prog F ([Value.agg (lc x).toArray] ++ cap).toArray w (fun r w' => r = .bool (q x) ∧ K e w' G L)) :
  Ret prog 199 #[v, .func (.func F) #[] cap.toArray] w (fun r w' => (∃ i, r = .int .i64 i ∧ IdxOf q ls i) ∧ K e w' G L) := by
 have hle := hv.le
 refine enter1 (args := [v, .func (.func F) #[] cap.toArray]) func199 rfl rfl rfl rfl ?_
 refine sq <| rg <| ?_
 refine vl (aI rfl) <| nl <| thn <| sq <| sq <| rg <| vl mv <| vl (ln underlying26 rfl hv.len) <| vl (mI rfl) <| nl <| thn <| bk <| ?_
 refine lp (σ := Nat) (fun i => [(0, v), (1, .func (.func F) #[] cap.toArray), (7, .int .i64 (ls.length : Int)), (8, .int .i64 (i : Int))]) (fun i w => i ≤ ls.length ∧ (∀ x ∈ ls.take i, q x = false) ∧ K e w G L) (fun i => ls.length - i) 0 ⟨rfl, rfl, rfl, rfl, trivial⟩ ⟨Nat.zero_le _, by simp, hK⟩ ?_
 rintro i g w ⟨hi, ha, hK⟩
 refine sq <| rg <| ?_
 refine vl (lt rfl rfl) <| nl <| thn <| sq <| ?_
 refine cdP rfl (fun hc => ?_) fun hc => ?_
 ·have hi' : i < ls.length := by omega
  refine sk <| thn <| sq <| bk <| sq <| rg <| ?_
  refine vl (mI rfl) <| vl (aI rfl) <| nl <| thn <| sq <| rg <| vl mv <| vl mv <| vl (mI rfl) <| vl (ixn underlying26 Ty.s101 rfl hv.1 rfl om) <| vl (lsF hK Ty.a101 Ty.s101 rfl hv om) <| ?_
  refine cf (cap := cap) (hf) rfl rfl (hp ls[i] w hK) ?_
  rintro _ w ⟨rfl, hK⟩
  refine nl <| thn <| ?_
  refine cdB rfl (fun hq => ?_) fun hq => ?_
  ·refine sq <| rg <| ?_
   refine vl (mI rfl) <| vl (aI rfl) <| nl <| thn <| rt <| bkr <| thr <| thr <| bkr <| thr <| p1r (a := .int _ _) rfl <| ?_
   exact ⟨⟨_, rfl, .inr ⟨i, rfl, hi', hq, ha⟩⟩, hK⟩
  ·refine sk <| bkn <| thn <| rg <| ?_
   refine vl (ad rfl rfl) <| vl (mI rfl) <| nl <| thn <| ?_
   exact ⟨i + 1, ⟨rfl, rfl, rfl, rfl, trivial⟩, ⟨hi', all_take hi' ha (by simpa using hq), hK⟩, by omega⟩
 ·have hi' : i = ls.length := by omega
  subst hi'
  refine ex <| the <| the <| bkh <| thn <| sq <| rg <| ?_
  refine vl (aI rfl) <| nl <| thn <| rt <| p1r (a := .int _ _) rfl <| ?_
  rw [List.take_length] at ha
  exact ⟨⟨_, rfl, .inl ⟨rfl, ha⟩⟩, hK⟩
theorem leaseAt_c (hK : K e w G L) (hv : LeaS G v ls) {k : Int} : Ret prog 166 #[v, .int .i64 k] w (fun r w' => r = .int .i64 (lAt ls k : Int) ∧ K e w' G L) := by
 refine enter1 (args := [v, .int .i64 k]) func166 rfl rfl rfl rfl ?_
 refine sq <| rg <| ?_
 refine bx hK rfl rfl ?_
 intro b3 w hK
 refine vl (aI rfl) <| nl <| thn <| sq <| rg <| vl mv <| vl (mkf rfl) <| ?_
 refine cl call199 rfl (indexFuncL_c (cap := [.pointer (some ⟨b3, 0, none⟩)]) (q := fun x => decide (k ≤ x.1)) call200 hK hv (fun x w hK => leaseAt1_c hK (List.mem_cons_self ..))) ?_
 rintro _ w ⟨⟨i, rfl, hi⟩, hK⟩
 refine vl (mx rfl rfl) <| vl (aI rfl) <| nl <| thn <| rt <| p1r (a := .int _ _) rfl <| ?_
 refine ⟨?_, hK.drop1⟩
 congr 1
 rcases hi with ⟨rfl, h⟩ | ⟨j, rfl, hj, h1, h2⟩
 ·rw [lAt_none fun x hx => by have := h x hx; simp at this; omega]; rfl
 ·rw [lAt_eq hj (fun x hx => by have := h2 x hx; simp at this; omega) (by simpa using h1)]; omega
theorem LeaseOf_c (hK : K e w G L) (hv : LeaS G v ls) {k : Int} :
  Ret prog 165 #[v, .int .i64 k] w (fun r w' => (∃ b x, r = .tuple [.agg (lc x).toArray, .bool b].toArray ∧ (b = true ↔ LsOk ls ∧ Pt k) ∧ (LsOk ls → Pt k → x = lsAt ls k)) ∧ K e w' G L) := by
 refine enterG2 (args := [v, .int .i64 k]) func165 rfl rfl rfl rfl ?_
 refine sq <| rg <| ?_
 refine al hK Ty.i101 rfl ?_
 intro b4 w hK
 refine vl (aB rfl) <| nl <| thn <| sq <| sq <| rg <| vl mv <| ?_
 refine cl call84 rfl (implLeasesValid_c hK (by assumption)) ?_
 rintro _ w ⟨rfl, hK⟩
 refine vl (ntB rfl) <| vl (mB rfl) <| ?_
 refine spl (t := 9) rfl (fun h1 => ?_) fun h1 => ?_
 ·simp at h1
  have h1' := not_dec h1
  refine gn rfl <| gn rfl <| gn rfl <| vl (pk rfl) <| nl <| thn <| ?_
  refine cdt rfl ?_
  refine sq <| rg <| ?_
  refine vl (bd [] Ty.p101 Ty.i101 rfl trivial rfl) <| ?_
  refine soS hK Ty.i101 0 rfl rfl rfl rfl rfl rfl ?_
  intro w hK
  refine vl (aB rfl) <| nl <| thn <| rt <| thr <| pg2r (rvS hK Ty.a101 Ty.s101 0 rfl rfl rfl) (rvT (v := .bool _) rfl) <| ?_
  exact ⟨⟨_, (0, 0, 0), rfl, by simp [h1'], fun h => absurd h h1'⟩, hK.drop1⟩
 ·simp at h1
  have h1' := of_dec h1
  have hlt := lAt_lt (ls := ls) (k := k) (by have := h1'.1; omega)
  refine gy rfl <| vl (mI rfl) <| gy rfl <| ?_
  refine cl call137 rfl (posok_c (C := fun w => K _ w _ _) hK) ?_
  rintro _ w ⟨rfl, hK⟩
  refine gy rfl <| vl (nt rfl) <| vl (pk rfl) <| nl <| thn <| ?_
  refine cdP rfl (fun h2 => ?_) fun h2 => ?_
  ·refine sq <| rg <| ?_
   refine vl (bd [] Ty.p101 Ty.i101 rfl trivial rfl) <| ?_
   refine soS hK Ty.i101 0 rfl rfl rfl rfl rfl rfl ?_
   intro w hK
   refine vl (aB rfl) <| nl <| thn <| rt <| thr <| pg2r (rvS hK Ty.a101 Ty.s101 0 rfl rfl rfl) (rvT (v := .bool _) rfl) <| ?_
   exact ⟨⟨_, (0, 0, 0), rfl, by simp; intro _; omega, fun _ h => absurd h h2⟩, hK.drop1⟩
  ·refine sk <| thn <| sq <| rg <| ?_
   refine vl mv <| vl mv <| vl (mI rfl) <| ?_
   refine cl call166 rfl (leaseAt_c hK (by assumption)) ?_
   rintro _ w ⟨rfl, hK⟩
   refine vl (ixn underlying26 Ty.s101 rfl hv.1 rfl om) <| vl (lsF hK Ty.a101 Ty.s101 rfl hv om) <| ?_
   refine soS hK Ty.i101 0 rfl rfl rfl rfl rfl rfl ?_
   intro w hK
   refine vl (aB rfl) <| nl <| thn <| rt <| pg2r (rvS hK Ty.a101 Ty.s101 0 rfl rfl rfl) (rvT (v := .bool _) rfl) <| ?_
   exact ⟨⟨_, _, rfl, by simp [h1']; omega, fun _ _ => lsAt_eq hlt⟩, hK.drop1⟩
end
end Go.Proofs.YtmgggljicpmndaaGreatDoor
