/- Contracts of the reader of a code. Contracts of the functions that copy, compare and mark slices of numbers. Contracts of the library's functions on slices of numbers. Conditions: those that each row states. -/
import Derived.Test.YthblmldlkipidaaGreatDoorPz
import Derived.Test.YthblmldlkipidaaGreatDoorSs
import Derived.Test.YthblmldlkipidaaGreatDoorOw
namespace Go.Proofs.YthblmldlkipidaaGreatDoor
open Go Go.Ro

section
variable {e w : World} {G : View} {L : Own} {C : World → Prop}

theorem pick_c {rb : Nat} {cva : Value} {code : List Int} {p n : Int} (hK : K e w G ((rb, row [cva, .int .i64 p] 98) :: L)) (hc : BytS G cva code) (hl : code.length ≤ 2000) (h0 : 0 ≤ p) (h1 : p ≤ 1000000000) :
  Ret Tryz.prog 32 #[.pointer (some ⟨rb, 0, none⟩), .int .i64 n] w (fun r w' => (∃ k, r = .int .i64 k ∧ 0 ≤ k ∧ (1 ≤ n → k < n) ∧ (n < 1 → k = 0)) ∧ K e w' G ((rb, row [cva, .int .i64 (p + 1)] 98) :: L)) := by
 refine enter1 (args := [.pointer (some ⟨rb, 0, none⟩), .int .i64 n]) Tryz.func32 rfl rfl rfl rfl ?_
 refine sq <| rg <| ?_
 refine vl (aI rfl) <| nl <| thn <| sq <| rg <| vl mv <| vl mv <| vl (nc rfl) <| vl (fa Tryz.underlying98 rfl Ty.z3 rfl) <| vl (ldO hK Ty.o3 0 rfl rfl rfl) <| vl (ad rfl rfl) <| vl (nc rfl) <| vl (fa Tryz.underlying98 rfl Ty.z3 rfl) <| ?_
 refine so hK Ty.i3 rfl 0 rfl rfl rfl rfl rfl ?_
 intro w hK
 refine nl <| thn <| sq <| sq <| rg <| vl (mI rfl) <| vl (lt rfl rfl) <| vl (mB rfl) <| ?_
 replace hK : K e w G ((rb, row [cva, .int .i64 (p + 1)] 98) :: L) := hK
 refine splP (t := 17) rfl (fun hn => ?_) (fun hn => ?_)
 ·refine gn rfl <| gn rfl <| gn rfl <| gn rfl <| gn rfl <| gn rfl <| vl (pk rfl) <| nl <| thn <| ?_
  refine cdt rfl ?_
  refine sq <| rg <| ?_
  refine vl (aI rfl) <| nl <| thn <| rt <| thr <| p1r (a := .int _ _) rfl <| ?_
  exact ⟨⟨_, rfl, by omega, by omega, fun _ => rfl⟩, hK⟩
 ·refine gy rfl <| vl mv <| gy rfl <| vl (nc rfl) <| gy rfl <| vl (fa Tryz.underlying98 rfl Ty.z22 rfl) <| gy rfl <| vl (ldO hK Ty.o22 0 rfl rfl rfl) <| gy rfl <| vl (ln Tryz.underlying22 rfl hc.len) <| gy rfl <| vl (eq rfl rfl) <| vl (pk rfl) <| nl <| thn <| ?_
  refine cdP rfl (fun he => ?_) (fun he => ?_)
  ·refine sq <| rg <| ?_
   refine vl (aI rfl) <| nl <| thn <| rt <| thr <| p1r (a := .int _ _) rfl <| ?_
   exact ⟨⟨_, rfl, by omega, by omega, fun _ => rfl⟩, hK⟩
  ·have hpos : 0 < code.length := by omega
   refine sk <| thn <| sq <| rg <| ?_
   refine vl mv <| vl (nc rfl) <| vl (fa Tryz.underlying98 rfl Ty.z3 rfl) <| vl (ldO hK Ty.o3 0 rfl rfl rfl) <| vl (sb rfl rfl) <| vl (aI rfl) <| nl <| thn <| sq <| sq <| rg <| vl (mI rfl) <| vl mv <| vl (nc rfl) <| vl (fa Tryz.underlying98 rfl Ty.z22 rfl) <| vl (ldO hK Ty.o22 0 rfl rfl rfl) <| vl (ln Tryz.underlying22 rfl hc.len) <| vl (lt rfl rfl) <| nl <| thn <| ?_
   refine cdP rfl (fun hlt => ?_) (fun hlt => ?_)
   ·skip
    have hb := hc.bd (p + 1 - 1).toNat
    refine sq <| rg <| ?_
    refine vl mv <| vl (nc rfl) <| vl (fa Tryz.underlying98 rfl Ty.z22 rfl) <| vl (ldO hK Ty.o22 0 rfl rfl rfl) <| vl (mI rfl) <| vl (ix1 Tryz.underlying22 Ty.s5 rfl hc.1 rfl (by first | omega | (simp only; omega)) (by first | omega | (simp only; omega))) <| vl (ldV hK Ty.o5 rfl (hc.atI (by first | omega | (simp only; omega)) (by first | omega | (simp only; omega)))) <| vl (cv Tryz.underlying5 Tryz.underlying3 rfl (by first | omega | (simp only; omega)) (by first | omega | (simp only; omega))) <| vl (mI rfl) <| vl (rm rfl rfl) <| vl (aI rfl) <| nl <| thn <| rt <| thr <| p1r (a := .int _ _) rfl <| ?_
    have hm := Int.emod_lt_of_pos (code.getD (p + 1 - 1).toNat 0) (show 0 < n by omega)
    have hm' := Int.emod_nonneg (code.getD (p + 1 - 1).toNat 0) (show n ≠ 0 by omega)
    exact ⟨⟨_, rfl, hm', fun _ => hm, fun h => by omega⟩, hK⟩
   ·skip
    refine sk <| thn <| sq <| ?_
    have m1 := Int.emod_lt_of_pos (p + 1 - 1) (show (0 : Int) < code.length by omega)
    have m1' := Int.emod_nonneg (p + 1 - 1) (show (code.length : Int) ≠ 0 by omega)
    have m2 := Int.emod_lt_of_pos ((p + 1 - 1) * 7 + 3) (show (0 : Int) < code.length by omega)
    have m2' := Int.emod_nonneg ((p + 1 - 1) * 7 + 3) (show (code.length : Int) ≠ 0 by omega)
    have b1 := hc.bd ((p + 1 - 1) % code.length).toNat
    have b2 := hc.bd (((p + 1 - 1) * 7 + 3) % code.length).toNat
    have d1 : 0 ≤ (p + 1 - 1) / (code.length : Int) := Int.ediv_nonneg (by omega) (by omega)
    have d2 : (p + 1 - 1) / (code.length : Int) ≤ p + 1 - 1 := Int.ediv_le_self _ (by omega)
    refine rgq (fun w => K _ w _ _) Ty.mixed (by kernel_rfl) (hK.drawn _) ?_
    refine qv (fun w hK => mv) <| ?_; refine qv (fun w hK => (nc rfl)) <| ?_; refine qv (fun w hK => (fa Tryz.underlying98 rfl Ty.z22 rfl)) <| ?_; refine qldO Ty.o22 0 rfl rfl rfl <| ?_; refine qv (fun w hK => (mI rfl)) <| ?_; refine qv (fun w hK => mv) <| ?_; refine qv (fun w hK => (nc rfl)) <| ?_; refine qv (fun w hK => (fa Tryz.underlying98 rfl Ty.z22 rfl)) <| ?_; refine qldO Ty.o22 0 rfl rfl rfl <| ?_; refine qv (fun w hK => (ln Tryz.underlying22 rfl hc.len)) <| ?_; refine qv (fun w hK => (rm rfl rfl)) <| ?_; refine qv (fun w hK => (ix1 Tryz.underlying22 Ty.s5 rfl hc.1 rfl (by first | omega | (simp only; omega)) (by first | omega | (simp only; omega)))) <| ?_; refine qldV Ty.o5 rfl (hc.atI (by first | omega | (simp only; omega)) (by first | omega | (simp only; omega))) <| ?_; refine qv (fun w hK => (cv Tryz.underlying5 Tryz.underlying3 rfl (by first | omega | (simp only; omega)) (by first | omega | (simp only; omega)))) <| ?_; refine qv (fun w hK => (ml rfl rfl)) <| ?_; refine qv (fun w hK => mv) <| ?_; refine qv (fun w hK => (nc rfl)) <| ?_; refine qv (fun w hK => (fa Tryz.underlying98 rfl Ty.z22 rfl)) <| ?_; refine qldO Ty.o22 0 rfl rfl rfl <| ?_; refine qv (fun w hK => (mI rfl)) <| ?_; refine qv (fun w hK => (ml rfl rfl)) <| ?_; refine qv (fun w hK => (ad rfl rfl)) <| ?_; refine qv (fun w hK => mv) <| ?_; refine qv (fun w hK => (nc rfl)) <| ?_; refine qv (fun w hK => (fa Tryz.underlying98 rfl Ty.z22 rfl)) <| ?_; refine qldO Ty.o22 0 rfl rfl rfl <| ?_; refine qv (fun w hK => (ln Tryz.underlying22 rfl hc.len)) <| ?_; refine qv (fun w hK => (rm rfl rfl)) <| ?_; refine qv (fun w hK => (ix1 Tryz.underlying22 Ty.s5 rfl hc.1 rfl (by first | omega | (simp only; omega)) (by first | omega | (simp only; omega)))) <| ?_; refine qldV Ty.o5 rfl (hc.atI (by first | omega | (simp only; omega)) (by first | omega | (simp only; omega))) <| ?_; refine qv (fun w hK => (cv Tryz.underlying5 Tryz.underlying3 rfl (by first | omega | (simp only; omega)) (by first | omega | (simp only; omega)))) <| ?_; refine qv (fun w hK => (ml rfl rfl)) <| ?_; refine qv (fun w hK => (ad rfl rfl)) <| ?_; refine qv (fun w hK => (mI rfl)) <| ?_; refine qv (fun w hK => (ml rfl rfl)) <| ?_; refine qv (fun w hK => (ad rfl rfl)) <| ?_; refine qv (fun w hK => (mI rfl)) <| ?_; refine qv (fun w hK => mv) <| ?_; refine qv (fun w hK => (nc rfl)) <| ?_; refine qv (fun w hK => (fa Tryz.underlying98 rfl Ty.z22 rfl)) <| ?_; refine qldO Ty.o22 0 rfl rfl rfl <| ?_; refine qv (fun w hK => (ln Tryz.underlying22 rfl hc.len)) <| ?_; refine qv (fun w hK => (qu rfl rfl (by first | omega | (simp only; omega)) (by first | omega | (simp only; omega)) (by first | omega | (simp only; omega)))) <| ?_; refine qv (fun w hK => (ml rfl rfl)) <| ?_; refine qv (fun w hK => (ad rfl rfl)) <| ?_; refine qv (fun w hK => (aI rfl)) <| ?_; refine qn <| ?_
    intro w hK
    refine thn <| sq <| rg <| vl (mI rfl) <| vl (mI rfl) <| vl (qu rfl rfl (by first | omega | (simp only; omega)) (by first | omega | (simp only; omega)) (by first | omega | (simp only; omega))) <| ?_
    generalize hx : code.getD ((p + 1 - 1) % code.length).toNat 0 * 131 + code.getD (((p + 1 - 1) * 7 + 3) % code.length).toNat 0 * 1117 + (p + 1 - 1) * 29 + (p + 1 - 1) / code.length * 53 = x
    have x0 : 0 ≤ x := by omega
    have x1 : x < 4611686018427387904 := by omega
    have hz := xorI_bd x0 x1 (show 0 ≤ x / 64 by omega) (by omega)
    refine vl (xr rfl rfl (by first | omega | (simp only; omega)) (by first | omega | (simp only; omega)) (by first | omega | (simp only; omega)) (by first | omega | (simp only; omega))) <| vl (aI rfl) <| nl <| thn <| sq <| rg <| vl (mI rfl) <| vl (mI rfl) <| vl (rm rfl rfl) <| vl (aI rfl) <| nl <| thn <| rt <| p1r (a := .int _ _) rfl <| ?_
    have q1 := Int.emod_lt_of_pos (xorI x (x / 64)) (show 0 < n by omega)
    have q2 := Int.emod_nonneg (xorI x (x / 64)) (show n ≠ 0 by omega)
    exact ⟨⟨_, rfl, q2, fun _ => q1, fun h => by omega⟩, hK⟩

theorem pickN_c {rb : Nat} {cva : Value} {code : List Int} {p n : Int} (hK : K e w G ((rb, row [cva, .int .i64 p] 98) :: L)) (hc : BytS G cva code) (hl : code.length ≤ 2000) (h0 : 0 ≤ p) (h1 : p ≤ 1000000000) (hn : 1 ≤ n) :
  Ret Tryz.prog 32 #[.pointer (some ⟨rb, 0, none⟩), .int .i64 n] w (fun r w' => (∃ k, r = .int .i64 k ∧ 0 ≤ k ∧ k < n) ∧ K e w' G ((rb, row [cva, .int .i64 (p + 1)] 98) :: L)) :=
 (pick_c hK hc hl h0 h1).mono fun _ _ ⟨⟨k, h1, h2, h3, _⟩, h5⟩ => ⟨⟨k, h1, h2, h3 hn⟩, h5⟩

theorem l6Open_c {cva : Value} {code : List Int} (hK : K e w G L) (hc : BytS G cva code) :
  Ret Tryz.prog 29 #[cva] w (fun r w' => ∃ rb cvb cod, r = .pointer (some ⟨rb, 0, none⟩) ∧ BytS G cvb cod ∧ cod.length ≤ 2000 ∧ K e w' G ((rb, row [cvb, .int .i64 0] 98) :: L)) := by
 have hle := hc.le
 refine enter1 (args := [cva]) Tryz.func29 rfl rfl rfl rfl ?_
 refine sq <| rg <| ?_
 refine vl asg <| nl <| thn <| sq <| sq <| rg <| vl mv <| vl (ln Tryz.underlying22 rfl hc.len) <| vl (gt rfl rfl) <| nl <| thn <| ?_
 refine cdP rfl (fun h => ?_) (fun h => ?_)
 ·skip
  have hcb : BytS G (slc cva 0 2000 1) ((code.take 2000).drop 0) := SlR.slc hc (by omega) (by omega)
  refine rg <| ?_
  refine vl mv <| vl (slHi (h := 2000) Tryz.underlying22 Ty.s5 rfl hc.1 rfl (by first | omega | (simp only; omega))) <| vl asg <| nl <| thn <| sq <| rg <| vl mv <| vl (bd [(0, _)] Ty.p98 Ty.i98 rfl ⟨⟨rfl, one_cells hcb.1.one⟩, trivial⟩ rfl) <| ?_
  refine bx hK rfl rfl ?_
  intro b10 w hK
  refine vl asg <| nl <| thn <| rt <| p1r (a := _) rfl <| ?_
  exact ⟨_, _, _, rfl, hcb, by simp; omega, hK⟩
 ·skip
  refine sk <| thn <| sq <| rg <| ?_
  refine vl mv <| vl (bd [(0, _)] Ty.p98 Ty.i98 rfl ⟨⟨rfl, one_cells hc.1.one⟩, trivial⟩ rfl) <| ?_
  refine bx hK rfl rfl ?_
  intro b10 w hK
  refine vl asg <| nl <| thn <| rt <| p1r (a := _) rfl <| ?_
  exact ⟨_, _, _, rfl, hc, by omega, hK⟩

variable {rb : Nat} {cva : Value} {code : List Int} {p : Int}

theorem l91Point_c (hK : K e w G ((rb, row [cva, .int .i64 p] 98) :: L)) (hcode : BytS G cva code) (hlen : code.length ≤ 2000) (h0 : 0 ≤ p) (h1 : p ≤ 900000000) :
  Ret Tryz.prog 74 #[.pointer (some ⟨rb, 0, none⟩)] w (fun r w' => ∃ k p', r = .int .i64 k ∧ -1 ≤ k ∧ k ≤ 64 ∧ p ≤ p' ∧ p' ≤ p + 2 ∧ K e w' G ((rb, row [cva, .int .i64 p'] 98) :: L)) := by
 refine enter1 (args := [.pointer (some ⟨rb, 0, none⟩)]) Tryz.func74 rfl rfl rfl rfl ?_
 refine sq <| rg <| ?_
 refine vl (aI rfl) <| nl <| thn <| sq <| sq <| rg <| vl mv <| ?_
 refine cl Tryz.call32 rfl (pickN_c hK hcode hlen (by first | omega | (simp only; omega)) (by first | omega | (simp only; omega)) (by first | omega | (simp only; omega))) ?_
 rintro _ w ⟨⟨k4, rfl, hk4, hkn4⟩, hK⟩
 refine vl (eq rfl rfl) <| nl <| thn <| ?_
 refine cdP rfl (fun h => ?_) (fun h => ?_)
 ·refine sq <| rg <| ?_
  refine vl mv <| ?_
  refine cl Tryz.call32 rfl (pickN_c hK hcode hlen (by first | omega | (simp only; omega)) (by first | omega | (simp only; omega)) (by first | omega | (simp only; omega))) ?_
  rintro _ w ⟨⟨k7, rfl, hk7, hkn7⟩, hK⟩
  refine vl (ml rfl rfl) <| vl (sb rfl rfl) <| vl (aI rfl) <| nl <| thn <| rt <| thr <| p1r (a := .int _ _) rfl <| ?_
  exact ⟨_, _, rfl, by omega, by omega, by omega, by omega, hK⟩
 ·refine sk <| thn <| sq <| rg <| ?_
  refine vl mv <| ?_
  refine cl Tryz.call32 rfl (pickN_c hK hcode hlen (by first | omega | (simp only; omega)) (by first | omega | (simp only; omega)) (by first | omega | (simp only; omega))) ?_
  rintro _ w ⟨⟨k11, rfl, hk11, hkn11⟩, hK⟩
  refine vl (aI rfl) <| nl <| thn <| rt <| p1r (a := .int _ _) rfl <| ?_
  exact ⟨_, _, rfl, by omega, by omega, by omega, by omega, hK⟩

end
end Go.Proofs.YthblmldlkipidaaGreatDoor
namespace Go.Proofs.YthblmldlkipidaaGreatDoor
open Go Go.Ro

section
variable {e w : World} {G : View} {L : Own} {v u : Value} {xs ys : List Int}

theorem sameInts_c (hK : K e w G L) (hv : IntS G v xs) (hu : IntS G u ys) :
  Ret Tryz.prog 25 #[v, u] w (fun r w' => r = .bool (decide (xs = ys)) ∧ K e w' G L) := by
 have hle := hv.le
 refine enter1 (args := [v, u]) Tryz.func25 rfl rfl rfl rfl ?_
 refine sq <| rg <| ?_
 refine vl (aB rfl) <| nl <| thn <| sq <| sq <| rg <| vl mv <| vl (ln Tryz.underlying26 rfl hv.len) <| vl mv <| vl (ln Tryz.underlying26 rfl hu.len) <| vl (ne rfl rfl) <| nl <| thn <| ?_
 refine cdP rfl (fun h => ?_) (fun h => ?_)
 ·refine sq <| rg <| ?_
  refine vl (aB rfl) <| nl <| thn <| rt <| thr <| p1r (a := .bool _) rfl <| ?_
  exact ⟨by rw [decide_eq_false]; rintro rfl; exact h rfl, hK⟩
 ·have hlen : xs.length = ys.length := by omega
  refine sk <| thn <| sq <| sq <| rg <| ?_
  refine vl (aI rfl) <| nl <| thn <| bk <| ?_
  refine lp (σ := Nat) (fun i => [(0, v), (1, u), (5, .int .i64 (i : Int))]) (fun i w => i ≤ xs.length ∧ xs.take i = ys.take i ∧ K e w G L) (fun i => xs.length - i) 0 ⟨rfl, rfl, rfl, trivial⟩ ⟨Nat.zero_le _, by simp, hK⟩ ?_
  rintro i g w ⟨hi, ht, hK⟩
  refine sq <| sq <| rg <| ?_
  refine vl (mI rfl) <| vl mv <| vl (ln Tryz.underlying26 rfl hv.len) <| vl (lt rfl rfl) <| nl <| thn <| ?_
  refine cdP rfl (fun hc => ?_) (fun hc => ?_)
  ·refine sk <| thn <| sq <| bk <| sq <| ?_
   refine rgq (fun w => K _ w _ _) Ty.mixed (by kernel_rfl) (hK.drawn _) ?_
   refine qv (fun w hK => mv) <| ?_; refine qv (fun w hK => (mI rfl)) <| ?_; refine qv (fun w hK => (ixn1 Tryz.underlying26 Ty.s3 rfl hv.1 rfl (by first | omega | (simp only; omega)))) <| ?_; refine qldV Ty.o3 rfl (hv.at (by first | omega | (simp only; omega))) <| ?_; refine qv (fun w hK => mv) <| ?_; refine qv (fun w hK => (mI rfl)) <| ?_; refine qv (fun w hK => (ixn1 Tryz.underlying26 Ty.s3 rfl hu.1 rfl (by first | omega | (simp only; omega)))) <| ?_; refine qldV Ty.o3 rfl (hu.at (by first | omega | (simp only; omega))) <| ?_; refine qv (fun w hK => (ne rfl rfl)) <| ?_; refine qn <| ?_
   intro w hK
   refine thn <| ?_
   refine cdP rfl (fun hx => ?_) (fun hx => ?_)
   ·refine sq <| rg <| ?_
    refine vl (aB rfl) <| nl <| thn <| rt <| bkr <| thr <| thr <| bkr <| thr <| p1r (a := .bool _) rfl <| ?_
    exact ⟨by rw [decide_eq_false]; rintro rfl; exact hx rfl, hK⟩
   ·refine sk <| bkn <| thn <| rg <| ?_
    refine vl (mI rfl) <| vl (ad rfl rfl) <| vl (aI rfl) <| nl <| thn <| ?_
    exact ⟨i + 1, ⟨rfl, rfl, rfl, trivial⟩, ⟨by omega, by rw [List.take_succ_eq_append_getElem (by omega), List.take_succ_eq_append_getElem (by omega), ht, Decidable.not_not.1 hx], hK⟩, by omega⟩
  ·refine ex <| the <| the <| bkh <| thn <| sq <| rg <| ?_
   refine vl (aB rfl) <| nl <| thn <| rt <| p1r (a := .bool _) rfl <| ?_
   exact ⟨by rw [decide_eq_true]; rw [List.take_of_length_le (by omega), List.take_of_length_le (by omega)] at ht; exact ht, hK⟩

theorem hasInt_c (hK : K e w G L) (hv : IntS G v xs) {n : Int} :
  Ret Tryz.prog 21 #[v, .int .i64 n] w (fun r w' => r = .bool (decide (n ∈ xs)) ∧ K e w' G L) := by
 have hle := hv.le
 refine enter1 (args := [v, .int .i64 n]) Tryz.func21 rfl rfl rfl rfl ?_
 refine sq <| rg <| ?_
 refine vl (aB rfl) <| nl <| thn <| sq <| sq <| rg <| vl (aI rfl) <| nl <| thn <| bk <| ?_
 refine lp (σ := Nat) (fun i => [(0, v), (1, .int .i64 n), (5, .int .i64 (i : Int))]) (fun i w => i ≤ xs.length ∧ n ∉ xs.take i ∧ K e w G L) (fun i => xs.length - i) 0 ⟨rfl, rfl, rfl, trivial⟩ ⟨Nat.zero_le _, by simp, hK⟩ ?_
 rintro i g w ⟨hi, hn, hK⟩
 refine sq <| sq <| rg <| ?_
 refine vl (mI rfl) <| vl mv <| vl (ln Tryz.underlying26 rfl hv.len) <| vl (lt rfl rfl) <| nl <| thn <| ?_
 refine cdP rfl (fun hc => ?_) (fun hc => ?_)
 ·refine sk <| thn <| sq <| bk <| sq <| rg <| ?_
  refine vl mv <| vl (mI rfl) <| vl (ixn1 Tryz.underlying26 Ty.s3 rfl hv.1 rfl (by first | omega | (simp only; omega))) <| vl (ldV hK Ty.o3 rfl (hv.at (by first | omega | (simp only; omega)))) <| vl (mI rfl) <| vl (eq rfl rfl) <| nl <| thn <| ?_
  refine cdP rfl (fun hx => ?_) (fun hx => ?_)
  ·refine sq <| rg <| ?_
   refine vl (aB rfl) <| nl <| thn <| rt <| bkr <| thr <| thr <| bkr <| thr <| p1r (a := .bool _) rfl <| ?_
   exact ⟨by rw [decide_eq_true]; rw [← hx]; exact List.getElem_mem _, hK⟩
  ·refine sk <| bkn <| thn <| rg <| ?_
   refine vl (mI rfl) <| vl (ad rfl rfl) <| vl (aI rfl) <| nl <| thn <| ?_
   exact ⟨i + 1, ⟨rfl, rfl, rfl, trivial⟩, ⟨by omega, by rw [List.take_succ_eq_append_getElem (by omega)]; grind, hK⟩, by omega⟩
 ·refine ex <| the <| the <| bkh <| thn <| sq <| rg <| ?_
  refine vl (aB rfl) <| nl <| thn <| rt <| p1r (a := .bool _) rfl <| ?_
  have : i = xs.length := by omega
  subst this
  exact ⟨by rw [decide_eq_false]; simpa using hn, hK⟩

theorem l1Has_c (hK : K e w G L) (hv : IntS G v xs) {n : Int} :
  Ret Tryz.prog 49 #[v, .int .i64 n] w (fun r w' => r = .bool (decide (n ∈ xs)) ∧ K e w' G L) := by
 have hle := hv.le
 refine enter1 (args := [v, .int .i64 n]) Tryz.func49 rfl rfl rfl rfl ?_
 refine sq <| rg <| ?_
 refine vl (aB rfl) <| nl <| thn <| sq <| sq <| rg <| vl (aI rfl) <| nl <| thn <| bk <| ?_
 refine lp (σ := Nat) (fun i => [(0, v), (1, .int .i64 n), (5, .int .i64 (i : Int))]) (fun i w => i ≤ xs.length ∧ n ∉ xs.take i ∧ K e w G L) (fun i => xs.length - i) 0 ⟨rfl, rfl, rfl, trivial⟩ ⟨Nat.zero_le _, by simp, hK⟩ ?_
 rintro i g w ⟨hi, hn, hK⟩
 refine sq <| sq <| rg <| ?_
 refine vl (mI rfl) <| vl mv <| vl (ln Tryz.underlying26 rfl hv.len) <| vl (lt rfl rfl) <| nl <| thn <| ?_
 refine cdP rfl (fun hc => ?_) (fun hc => ?_)
 ·refine sk <| thn <| sq <| bk <| sq <| rg <| ?_
  refine vl mv <| vl (mI rfl) <| vl (ixn1 Tryz.underlying26 Ty.s3 rfl hv.1 rfl (by first | omega | (simp only; omega))) <| vl (ldV hK Ty.o3 rfl (hv.at (by first | omega | (simp only; omega)))) <| vl (mI rfl) <| vl (eq rfl rfl) <| nl <| thn <| ?_
  refine cdP rfl (fun hx => ?_) (fun hx => ?_)
  ·refine sq <| rg <| ?_
   refine vl (aB rfl) <| nl <| thn <| rt <| bkr <| thr <| thr <| bkr <| thr <| p1r (a := .bool _) rfl <| ?_
   exact ⟨by rw [decide_eq_true]; rw [← hx]; exact List.getElem_mem _, hK⟩
  ·refine sk <| bkn <| thn <| rg <| ?_
   refine vl (mI rfl) <| vl (ad rfl rfl) <| vl (aI rfl) <| nl <| thn <| ?_
   exact ⟨i + 1, ⟨rfl, rfl, rfl, trivial⟩, ⟨by omega, by rw [List.take_succ_eq_append_getElem (by omega)]; grind, hK⟩, by omega⟩
 ·refine ex <| the <| the <| bkh <| thn <| sq <| rg <| ?_
  refine vl (aB rfl) <| nl <| thn <| rt <| p1r (a := .bool _) rfl <| ?_
  have : i = xs.length := by omega
  subst this
  exact ⟨by rw [decide_eq_false]; simpa using hn, hK⟩

end
end Go.Proofs.YthblmldlkipidaaGreatDoor
namespace Go.Proofs.YthblmldlkipidaaGreatDoor
open Go Go.Ro

section
variable {e w : World} {G : View} {L : Own} {v u : Value} {xs ys : List Int}

theorem indexFunc_c {F : FuncId} {cap : List Value} {q : Int → Bool} (hf : ∀ args w, (callFunc F args).run Tryz.prog w = .ok (.enter F args) w) (hK : K e w G L) (hv : IntS G v xs)
  (hp : ∀ x w, K e w G L → Ret Tryz.prog F ([Value.int .i64 x] ++ cap).toArray w (fun r w' => r = .bool (q x) ∧ K e w' G L)) :
  Ret Tryz.prog 145 #[v, .func (.func F) #[] cap.toArray] w (fun r w' => (∃ i, r = .int .i64 i ∧ IdxOf q xs i) ∧ K e w' G L) := by
 have hle := hv.le
 refine enter1 (args := [v, .func (.func F) #[] cap.toArray]) Tryz.func145 rfl rfl rfl rfl ?_
 refine sq <| rg <| ?_
 refine vl (aI rfl) <| nl <| thn <| sq <| sq <| rg <| vl mv <| vl (ln Tryz.underlying26 rfl hv.len) <| vl (mI rfl) <| nl <| thn <| bk <| ?_
 refine lp (σ := Nat) (fun i => [(0, v), (1, .func (.func F) #[] cap.toArray), (7, .int .i64 (xs.length : Int)), (8, .int .i64 (i : Int))]) (fun i w => i ≤ xs.length ∧ (∀ x ∈ xs.take i, q x = false) ∧ K e w G L) (fun i => xs.length - i) 0 ⟨rfl, rfl, rfl, rfl, trivial⟩ ⟨Nat.zero_le _, by simp, hK⟩ ?_
 rintro i g w ⟨hi, ha, hK⟩
 refine sq <| rg <| ?_
 refine vl (lt rfl rfl) <| nl <| thn <| sq <| ?_
 refine cdP rfl (fun hc => ?_) (fun hc => ?_)
 ·have hi' : i < xs.length := by omega
  refine sk <| thn <| sq <| bk <| sq <| rg <| ?_
  refine vl (mI rfl) <| vl (aI rfl) <| nl <| thn <| sq <| rg <| vl mv <| vl mv <| vl (mI rfl) <| vl (ixn1 Tryz.underlying26 Ty.s3 rfl hv.1 rfl (by first | omega | (simp only; omega))) <| vl (ldV hK Ty.o3 rfl (hv.at (by first | omega | (simp only; omega)))) <| ?_
  refine cf (cap := cap) (hf) rfl rfl (hp xs[i] w hK) ?_
  rintro _ w ⟨rfl, hK⟩
  refine nl <| thn <| ?_
  refine cdB rfl (fun hq => ?_) (fun hq => ?_)
  ·refine sq <| rg <| ?_
   refine vl (mI rfl) <| vl (aI rfl) <| nl <| thn <| rt <| bkr <| thr <| thr <| bkr <| thr <| p1r (a := .int _ _) rfl <| ?_
   exact ⟨⟨_, rfl, .inr ⟨i, rfl, hi', hq, ha⟩⟩, hK⟩
  ·refine sk <| bkn <| thn <| rg <| ?_
   refine vl (ad rfl rfl) <| vl (mI rfl) <| nl <| thn <| ?_
   exact ⟨i + 1, ⟨rfl, rfl, rfl, rfl, trivial⟩, ⟨hi', all_take hi' ha (by simpa using hq), hK⟩, by omega⟩
 ·have hi' : i = xs.length := by omega
  subst hi'
  refine ex <| the <| the <| bkh <| thn <| sq <| rg <| ?_
  refine vl (aI rfl) <| nl <| thn <| rt <| p1r (a := .int _ _) rfl <| ?_
  rw [List.take_length] at ha
  exact ⟨⟨_, rfl, .inl ⟨rfl, ha⟩⟩, hK⟩

theorem containsFunc_c {F : FuncId} {cap : List Value} {q : Int → Bool} (hf : ∀ args w, (callFunc F args).run Tryz.prog w = .ok (.enter F args) w) (hK : K e w G L) (hv : IntS G v xs)
  (hp : ∀ x w, K e w G L → Ret Tryz.prog F ([Value.int .i64 x] ++ cap).toArray w (fun r w' => r = .bool (q x) ∧ K e w' G L)) :
  Ret Tryz.prog 102 #[v, .func (.func F) #[] cap.toArray] w (fun r w' => (∃ b, r = .bool b ∧ (b = true ↔ ∃ x ∈ xs, q x = true)) ∧ K e w' G L) := by
 refine enter1 (args := [v, .func (.func F) #[] cap.toArray]) Tryz.func102 rfl rfl rfl rfl ?_
 refine sq <| rg <| ?_
 refine vl (aB rfl) <| nl <| thn <| sq <| rg <| vl mv <| vl mv <| ?_
 refine cl Tryz.call145 rfl (indexFunc_c hf hK hv hp) ?_
 rintro _ w ⟨⟨i, rfl, hi⟩, hK⟩
 refine vl (ge rfl rfl) <| vl (aB rfl) <| nl <| thn <| rt <| p1r (a := .bool _) rfl <| ?_
 exact ⟨⟨_, rfl, by rw [decide_eq_true_eq]; exact hi.ge⟩, hK⟩

theorem index_c (hK : K e w G L) (hv : IntS G v xs) {n : Int} :
  Ret Tryz.prog 109 #[v, .int .i64 n] w (fun r w' => (∃ i, r = .int .i64 i ∧ IdxOf (fun x => decide (n = x)) xs i) ∧ K e w' G L) := by
 have hle := hv.le
 refine enter1 (args := [v, .int .i64 n]) Tryz.func109 rfl rfl rfl rfl ?_
 refine sq <| rg <| ?_
 refine vl (aI rfl) <| nl <| thn <| sq <| sq <| rg <| vl mv <| vl (ln Tryz.underlying26 rfl hv.len) <| vl (mI rfl) <| nl <| thn <| bk <| ?_
 refine lp (σ := Nat) (fun i => [(0, v), (1, .int .i64 n), (7, .int .i64 (xs.length : Int)), (8, .int .i64 (i : Int))]) (fun i w => i ≤ xs.length ∧ (∀ x ∈ xs.take i, decide (n = x) = false) ∧ K e w G L) (fun i => xs.length - i) 0 ⟨rfl, rfl, rfl, rfl, trivial⟩ ⟨Nat.zero_le _, by simp, hK⟩ ?_
 rintro i g w ⟨hi, ha, hK⟩
 refine sq <| rg <| ?_
 refine vl (lt rfl rfl) <| nl <| thn <| sq <| ?_
 refine cdP rfl (fun hc => ?_) (fun hc => ?_)
 ·have hi' : i < xs.length := by omega
  refine sk <| thn <| sq <| bk <| sq <| rg <| ?_
  refine vl (mI rfl) <| vl (aI rfl) <| nl <| thn <| sq <| rg <| vl (mI rfl) <| vl mv <| vl (mI rfl) <| vl (ixn1 Tryz.underlying26 Ty.s3 rfl hv.1 rfl (by first | omega | (simp only; omega))) <| vl (ldV hK Ty.o3 rfl (hv.at (by first | omega | (simp only; omega)))) <| vl (eq rfl rfl) <| nl <| thn <| ?_
  refine cdP rfl (fun hq => ?_) (fun hq => ?_)
  ·refine sq <| rg <| ?_
   refine vl (mI rfl) <| vl (aI rfl) <| nl <| thn <| rt <| bkr <| thr <| thr <| bkr <| thr <| p1r (a := .int _ _) rfl <| ?_
   exact ⟨⟨_, rfl, .inr ⟨i, rfl, hi', decide_eq_true hq, ha⟩⟩, hK⟩
  ·refine sk <| bkn <| thn <| rg <| ?_
   refine vl (ad rfl rfl) <| vl (mI rfl) <| nl <| thn <| ?_
   exact ⟨i + 1, ⟨rfl, rfl, rfl, rfl, trivial⟩, ⟨hi', all_take hi' ha (decide_eq_false hq), hK⟩, by omega⟩
 ·have hi' : i = xs.length := by omega
  subst hi'
  refine ex <| the <| the <| bkh <| thn <| sq <| rg <| ?_
  refine vl (aI rfl) <| nl <| thn <| rt <| p1r (a := .int _ _) rfl <| ?_
  rw [List.take_length] at ha
  exact ⟨⟨_, rfl, .inl ⟨rfl, ha⟩⟩, hK⟩

theorem contains_c (hK : K e w G L) (hv : IntS G v xs) {n : Int} :
  Ret Tryz.prog 64 #[v, .int .i64 n] w (fun r w' => r = .bool (decide (n ∈ xs)) ∧ K e w' G L) := by
 refine enter1 (args := [v, .int .i64 n]) Tryz.func64 rfl rfl rfl rfl ?_
 refine sq <| rg <| ?_
 refine vl (aB rfl) <| nl <| thn <| sq <| rg <| vl mv <| vl (mI rfl) <| ?_
 refine cl Tryz.call109 rfl (index_c hK hv) ?_
 rintro _ w ⟨⟨i, rfl, hi⟩, hK⟩
 refine vl (ge rfl rfl) <| vl (aB rfl) <| nl <| thn <| rt <| p1r (a := .bool _) rfl <| ?_
 refine ⟨?_, hK⟩
 have := hi.ge
 congr 1
 by_cases h : n ∈ xs
 ·rw [decide_eq_true h, decide_eq_true (this.2 ⟨n, h, by simp⟩)]
 ·rw [decide_eq_false h, decide_eq_false (fun h' => by obtain ⟨x, h1, h2⟩ := this.1 h'; simp at h2; subst h2; exact h h1)]
end
end Go.Proofs.YthblmldlkipidaaGreatDoor
