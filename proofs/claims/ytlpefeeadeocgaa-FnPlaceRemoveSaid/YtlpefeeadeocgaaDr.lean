/- Contracts of the reader of a code. Conditions: those that each row states. -/
import Derived.Test.YtlpefeeadeocgaaPz
import Derived.Test.YtlpefeeadeocgaaXr
namespace Go.Proofs.Ytlpefeeadeocgaa
open Go Go.Ro

section
variable {e w : World} {G : View} {L : Own} {C : World → Prop}

theorem pick_c {rb : Nat} {cva : Value} {code : List Int} {p n : Int} (hK : K e w G ((rb, row [cva, .int .i64 p] 55) :: L)) (hc : BytS G cva code) (hl : code.length ≤ 2000) (h0 : 0 ≤ p) (h1 : p ≤ 1000000000) :
  Ret Try.prog 25 #[.pointer (some ⟨rb, 0, none⟩), .int .i64 n] w (fun r w' => (∃ k, r = .int .i64 k ∧ 0 ≤ k ∧ (1 ≤ n → k < n) ∧ (n < 1 → k = 0)) ∧ K e w' G ((rb, row [cva, .int .i64 (p + 1)] 55) :: L)) := by
 refine enter1 (args := [.pointer (some ⟨rb, 0, none⟩), .int .i64 n]) Try.func25 rfl rfl rfl rfl ?_
 refine sq <| rg <| ?_
 refine vl (aI rfl) <| nl <| thn <| sq <| rg <| vl mv <| vl mv <| vl (nc rfl) <| vl (fa Try.underlying55 rfl Ty.z3 rfl) <| vl (ldO hK Ty.o3 0 rfl rfl rfl) <| vl (ad rfl rfl) <| vl (nc rfl) <| vl (fa Try.underlying55 rfl Ty.z3 rfl) <| ?_
 refine so hK Ty.i3 rfl 0 rfl rfl rfl rfl rfl ?_
 intro w hK
 refine nl <| thn <| sq <| sq <| rg <| vl (mI rfl) <| vl (lt rfl rfl) <| vl (mB rfl) <| ?_
 replace hK : K e w G ((rb, row [cva, .int .i64 (p + 1)] 55) :: L) := hK
 refine splP (t := 17) rfl (fun hn => ?_) (fun hn => ?_)
 ·refine gn rfl <| gn rfl <| gn rfl <| gn rfl <| gn rfl <| gn rfl <| vl (pk rfl) <| nl <| thn <| ?_
  refine cdt rfl ?_
  refine sq <| rg <| ?_
  refine vl (aI rfl) <| nl <| thn <| rt <| thr <| p1r (a := .int _ _) rfl <| ?_
  exact ⟨⟨_, rfl, by omega, by omega, fun _ => rfl⟩, hK⟩
 ·refine gy rfl <| vl mv <| gy rfl <| vl (nc rfl) <| gy rfl <| vl (fa Try.underlying55 rfl Ty.z22 rfl) <| gy rfl <| vl (ldO hK Ty.o22 0 rfl rfl rfl) <| gy rfl <| vl (ln Try.underlying22 rfl hc.len) <| gy rfl <| vl (eq rfl rfl) <| vl (pk rfl) <| nl <| thn <| ?_
  refine cdP rfl (fun he => ?_) (fun he => ?_)
  ·refine sq <| rg <| ?_
   refine vl (aI rfl) <| nl <| thn <| rt <| thr <| p1r (a := .int _ _) rfl <| ?_
   exact ⟨⟨_, rfl, by omega, by omega, fun _ => rfl⟩, hK⟩
  ·have hpos : 0 < code.length := by omega
   refine sk <| thn <| sq <| rg <| ?_
   refine vl mv <| vl (nc rfl) <| vl (fa Try.underlying55 rfl Ty.z3 rfl) <| vl (ldO hK Ty.o3 0 rfl rfl rfl) <| vl (sb rfl rfl) <| vl (aI rfl) <| nl <| thn <| sq <| sq <| rg <| vl (mI rfl) <| vl mv <| vl (nc rfl) <| vl (fa Try.underlying55 rfl Ty.z22 rfl) <| vl (ldO hK Ty.o22 0 rfl rfl rfl) <| vl (ln Try.underlying22 rfl hc.len) <| vl (lt rfl rfl) <| nl <| thn <| ?_
   refine cdP rfl (fun hlt => ?_) (fun hlt => ?_)
   ·skip
    have hb := hc.bd (p + 1 - 1).toNat
    refine sq <| rg <| ?_
    refine vl mv <| vl (nc rfl) <| vl (fa Try.underlying55 rfl Ty.z22 rfl) <| vl (ldO hK Ty.o22 0 rfl rfl rfl) <| vl (mI rfl) <| vl (ix1 Try.underlying22 Ty.s5 rfl hc.1 rfl (by first | omega | (simp only; omega)) (by first | omega | (simp only; omega))) <| vl (ldV hK Ty.o5 rfl (hc.atI (by first | omega | (simp only; omega)) (by first | omega | (simp only; omega)))) <| vl (cv Try.underlying5 Try.underlying3 rfl (by first | omega | (simp only; omega)) (by first | omega | (simp only; omega))) <| vl (mI rfl) <| vl (rm rfl rfl) <| vl (aI rfl) <| nl <| thn <| rt <| thr <| p1r (a := .int _ _) rfl <| ?_
    have hm := Int.emod_lt_of_pos (code.getD (p + 1 - 1).toNat 0) (show 0 < n by omega)
    have hm' := Int.emod_nonneg (code.getD (p + 1 - 1).toNat 0) (show n ≠ 0 by omega)
    exact ⟨⟨_, rfl, hm', fun _ => hm, fun h => by omega⟩, hK⟩
   ·skip
    refine sk <| thn <| sq <| ?_
    have m1 := Int.emod_lt_of_pos (p + 1 - 1) (show (0 : Int) < code.length by omega)
    have m1' := Int.emod_nonneg (p + 1 - 1) (show (code.length : Int) ≠ 0 by omega)
    have m2 := Int.emod_lt_of_pos ((p + 1 - 1) * 7 + 3) (show (0 : Int) < code.length by omega)
    have m2' := Int.emod_nonneg ((p + 1 - 1) * 7 + 3) (show (code.length : Int) ≠ 0 by omega)
    have b1 := hc.bd ((p + 1 - 1) % code.length).toNat
    have b2 := hc.bd (((p + 1 - 1) * 7 + 3) % code.length).toNat
    have d1 : 0 ≤ (p + 1 - 1) / (code.length : Int) := Int.ediv_nonneg (by omega) (by omega)
    have d2 : (p + 1 - 1) / (code.length : Int) ≤ p + 1 - 1 := Int.ediv_le_self _ (by omega)
    refine rgq (fun w => K _ w _ _) Ty.mixed (by kernel_rfl) (hK.drawn _) ?_
    refine qv (fun w hK => mv) <| ?_; refine qv (fun w hK => (nc rfl)) <| ?_; refine qv (fun w hK => (fa Try.underlying55 rfl Ty.z22 rfl)) <| ?_; refine qldO Ty.o22 0 rfl rfl rfl <| ?_; refine qv (fun w hK => (mI rfl)) <| ?_; refine qv (fun w hK => mv) <| ?_; refine qv (fun w hK => (nc rfl)) <| ?_; refine qv (fun w hK => (fa Try.underlying55 rfl Ty.z22 rfl)) <| ?_; refine qldO Ty.o22 0 rfl rfl rfl <| ?_; refine qv (fun w hK => (ln Try.underlying22 rfl hc.len)) <| ?_; refine qv (fun w hK => (rm rfl rfl)) <| ?_; refine qv (fun w hK => (ix1 Try.underlying22 Ty.s5 rfl hc.1 rfl (by first | omega | (simp only; omega)) (by first | omega | (simp only; omega)))) <| ?_; refine qldV Ty.o5 rfl (hc.atI (by first | omega | (simp only; omega)) (by first | omega | (simp only; omega))) <| ?_; refine qv (fun w hK => (cv Try.underlying5 Try.underlying3 rfl (by first | omega | (simp only; omega)) (by first | omega | (simp only; omega)))) <| ?_; refine qv (fun w hK => (ml rfl rfl)) <| ?_; refine qv (fun w hK => mv) <| ?_; refine qv (fun w hK => (nc rfl)) <| ?_; refine qv (fun w hK => (fa Try.underlying55 rfl Ty.z22 rfl)) <| ?_; refine qldO Ty.o22 0 rfl rfl rfl <| ?_; refine qv (fun w hK => (mI rfl)) <| ?_; refine qv (fun w hK => (ml rfl rfl)) <| ?_; refine qv (fun w hK => (ad rfl rfl)) <| ?_; refine qv (fun w hK => mv) <| ?_; refine qv (fun w hK => (nc rfl)) <| ?_; refine qv (fun w hK => (fa Try.underlying55 rfl Ty.z22 rfl)) <| ?_; refine qldO Ty.o22 0 rfl rfl rfl <| ?_; refine qv (fun w hK => (ln Try.underlying22 rfl hc.len)) <| ?_; refine qv (fun w hK => (rm rfl rfl)) <| ?_; refine qv (fun w hK => (ix1 Try.underlying22 Ty.s5 rfl hc.1 rfl (by first | omega | (simp only; omega)) (by first | omega | (simp only; omega)))) <| ?_; refine qldV Ty.o5 rfl (hc.atI (by first | omega | (simp only; omega)) (by first | omega | (simp only; omega))) <| ?_; refine qv (fun w hK => (cv Try.underlying5 Try.underlying3 rfl (by first | omega | (simp only; omega)) (by first | omega | (simp only; omega)))) <| ?_; refine qv (fun w hK => (ml rfl rfl)) <| ?_; refine qv (fun w hK => (ad rfl rfl)) <| ?_; refine qv (fun w hK => (mI rfl)) <| ?_; refine qv (fun w hK => (ml rfl rfl)) <| ?_; refine qv (fun w hK => (ad rfl rfl)) <| ?_; refine qv (fun w hK => (mI rfl)) <| ?_; refine qv (fun w hK => mv) <| ?_; refine qv (fun w hK => (nc rfl)) <| ?_; refine qv (fun w hK => (fa Try.underlying55 rfl Ty.z22 rfl)) <| ?_; refine qldO Ty.o22 0 rfl rfl rfl <| ?_; refine qv (fun w hK => (ln Try.underlying22 rfl hc.len)) <| ?_; refine qv (fun w hK => (qu rfl rfl (by first | omega | (simp only; omega)) (by first | omega | (simp only; omega)) (by first | omega | (simp only; omega)))) <| ?_; refine qv (fun w hK => (ml rfl rfl)) <| ?_; refine qv (fun w hK => (ad rfl rfl)) <| ?_; refine qv (fun w hK => (aI rfl)) <| ?_; refine qn <| ?_
    intro w hK
    refine thn <| sq <| rg <| vl (mI rfl) <| vl (mI rfl) <| vl (qu rfl rfl (by first | omega | (simp only; omega)) (by first | omega | (simp only; omega)) (by first | omega | (simp only; omega))) <| ?_
    generalize hx : code.getD ((p + 1 - 1) % code.length).toNat 0 * 131 + code.getD (((p + 1 - 1) * 7 + 3) % code.length).toNat 0 * 1117 + (p + 1 - 1) * 29 + (p + 1 - 1) / code.length * 53 = x
    have x0 : 0 ≤ x := by omega
    have x1 : x < 4611686018427387904 := by omega
    have hz := xorI_bd x0 x1 (show 0 ≤ x / 64 by omega) (by omega)
    refine vl (xr rfl rfl (by first | omega | (simp only; omega)) (by first | omega | (simp only; omega)) (by first | omega | (simp only; omega)) (by first | omega | (simp only; omega))) <| vl (aI rfl) <| nl <| thn <| sq <| rg <| vl (mI rfl) <| vl (mI rfl) <| vl (rm rfl rfl) <| vl (aI rfl) <| nl <| thn <| rt <| p1r (a := .int _ _) rfl <| ?_
    have q1 := Int.emod_lt_of_pos (xorI x (x / 64)) (show 0 < n by omega)
    have q2 := Int.emod_nonneg (xorI x (x / 64)) (show n ≠ 0 by omega)
    exact ⟨⟨_, rfl, q2, fun _ => q1, fun h => by omega⟩, hK⟩

theorem pickN_c {rb : Nat} {cva : Value} {code : List Int} {p n : Int} (hK : K e w G ((rb, row [cva, .int .i64 p] 55) :: L)) (hc : BytS G cva code) (hl : code.length ≤ 2000) (h0 : 0 ≤ p) (h1 : p ≤ 1000000000) (hn : 1 ≤ n) :
  Ret Try.prog 25 #[.pointer (some ⟨rb, 0, none⟩), .int .i64 n] w (fun r w' => (∃ k, r = .int .i64 k ∧ 0 ≤ k ∧ k < n) ∧ K e w' G ((rb, row [cva, .int .i64 (p + 1)] 55) :: L)) :=
 (pick_c hK hc hl h0 h1).mono fun _ _ ⟨⟨k, h1, h2, h3, _⟩, h5⟩ => ⟨⟨k, h1, h2, h3 hn⟩, h5⟩

theorem l6Open_c {cva : Value} {code : List Int} (hK : K e w G L) (hc : BytS G cva code) :
  Ret Try.prog 13 #[cva] w (fun r w' => ∃ rb cvb cod, r = .pointer (some ⟨rb, 0, none⟩) ∧ BytS G cvb cod ∧ cod.length ≤ 2000 ∧ K e w' G ((rb, row [cvb, .int .i64 0] 55) :: L)) := by
 have hle := hc.le
 refine enter1 (args := [cva]) Try.func13 rfl rfl rfl rfl ?_
 refine sq <| rg <| ?_
 refine vl asg <| nl <| thn <| sq <| sq <| rg <| vl mv <| vl (ln Try.underlying22 rfl hc.len) <| vl (gt rfl rfl) <| nl <| thn <| ?_
 refine cdP rfl (fun h => ?_) (fun h => ?_)
 ·skip
  have hcb : BytS G (slc cva 0 2000 1) ((code.take 2000).drop 0) := SlR.slc hc (by omega) (by omega)
  refine rg <| ?_
  refine vl mv <| vl (slHi (h := 2000) Try.underlying22 Ty.s5 rfl hc.1 rfl (by first | omega | (simp only; omega))) <| vl asg <| nl <| thn <| sq <| rg <| vl mv <| vl (bd [(0, _)] Ty.p55 Ty.i55 rfl ⟨⟨rfl, one_cells hcb.1.one⟩, trivial⟩ rfl) <| ?_
  refine bx hK rfl rfl ?_
  intro b10 w hK
  refine vl asg <| nl <| thn <| rt <| p1r (a := _) rfl <| ?_
  exact ⟨_, _, _, rfl, hcb, by simp; omega, hK⟩
 ·skip
  refine sk <| thn <| sq <| rg <| ?_
  refine vl mv <| vl (bd [(0, _)] Ty.p55 Ty.i55 rfl ⟨⟨rfl, one_cells hc.1.one⟩, trivial⟩ rfl) <| ?_
  refine bx hK rfl rfl ?_
  intro b10 w hK
  refine vl asg <| nl <| thn <| rt <| p1r (a := _) rfl <| ?_
  exact ⟨_, _, _, rfl, hc, by omega, hK⟩

variable {rb : Nat} {cva : Value} {code : List Int} {p : Int}

theorem l91Point_c (hK : K e w G ((rb, row [cva, .int .i64 p] 55) :: L)) (hcode : BytS G cva code) (hlen : code.length ≤ 2000) (h0 : 0 ≤ p) (h1 : p ≤ 900000000) :
  Ret Try.prog 37 #[.pointer (some ⟨rb, 0, none⟩)] w (fun r w' => ∃ k p', r = .int .i64 k ∧ -1 ≤ k ∧ k ≤ 64 ∧ p ≤ p' ∧ p' ≤ p + 2 ∧ K e w' G ((rb, row [cva, .int .i64 p'] 55) :: L)) := by
 refine enter1 (args := [.pointer (some ⟨rb, 0, none⟩)]) Try.func37 rfl rfl rfl rfl ?_
 refine sq <| rg <| ?_
 refine vl (aI rfl) <| nl <| thn <| sq <| sq <| rg <| vl mv <| ?_
 refine cl Try.call25 rfl (pickN_c hK hcode hlen (by first | omega | (simp only; omega)) (by first | omega | (simp only; omega)) (by first | omega | (simp only; omega))) ?_
 rintro _ w ⟨⟨k4, rfl, hk4, hkn4⟩, hK⟩
 refine vl (eq rfl rfl) <| nl <| thn <| ?_
 refine cdP rfl (fun h => ?_) (fun h => ?_)
 ·refine sq <| rg <| ?_
  refine vl mv <| ?_
  refine cl Try.call25 rfl (pickN_c hK hcode hlen (by first | omega | (simp only; omega)) (by first | omega | (simp only; omega)) (by first | omega | (simp only; omega))) ?_
  rintro _ w ⟨⟨k7, rfl, hk7, hkn7⟩, hK⟩
  refine vl (ml rfl rfl) <| vl (sb rfl rfl) <| vl (aI rfl) <| nl <| thn <| rt <| thr <| p1r (a := .int _ _) rfl <| ?_
  exact ⟨_, _, rfl, by omega, by omega, by omega, by omega, hK⟩
 ·refine sk <| thn <| sq <| rg <| ?_
  refine vl mv <| ?_
  refine cl Try.call25 rfl (pickN_c hK hcode hlen (by first | omega | (simp only; omega)) (by first | omega | (simp only; omega)) (by first | omega | (simp only; omega))) ?_
  rintro _ w ⟨⟨k11, rfl, hk11, hkn11⟩, hK⟩
  refine vl (aI rfl) <| nl <| thn <| rt <| p1r (a := .int _ _) rfl <| ?_
  exact ⟨_, _, rfl, by omega, by omega, by omega, by omega, hK⟩

end
end Go.Proofs.Ytlpefeeadeocgaa