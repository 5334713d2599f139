/- Contracts of the small functions on numbers. Contracts of the functions on puzzles. Contracts of the reader of a code. Contracts of the functions that copy, compare and mark slices of numbers. Conditions: those that each row states. -/
import Derived.Test.YtjfjnmbgimfmaaaGreatType
import Derived.Test.YtjfjnmbgimfmaaaGreatPsM
import Derived.Test.YtjfjnmbgimfmaaaGreatMp
namespace Go.Proofs.YtjfjnmbgimfmaaaGreat
open Go Go.Ro

section
variable {w : World} {C : World → Prop}

theorem l6In_c (hK : C w) {n lo hi : Int} : Ret Tryz.prog 49 #[.int .i64 n, .int .i64 lo, .int .i64 hi] w (fun r w' => r = .bool (decide (lo ≤ n ∧ n ≤ hi)) ∧ C w') := by
  refine enter1 (args := [.int .i64 n, .int .i64 lo, .int .i64 hi]) Tryz.func49 rfl rfl rfl rfl ?_
  refine sq <| rg <| ?_
  refine vl (asv (v := .bool _) rfl) <| nl <| thn <| sq <| rg <| vl (mvv (v := .int _ _) rfl) <| vl (mvv (v := .int _ _) rfl) <| vl (ge rfl rfl) <| vl (mvv (v := .bool _) rfl) <| ?_
  refine splP (t := 10) rfl (fun h => ?_) (fun h => ?_)
  · refine gy rfl <| vl (mvv (v := .int _ _) rfl) <| gy rfl <| vl (mvv (v := .int _ _) rfl) <| gy rfl <| vl (le rfl rfl) <| vl (pk rfl) <| vl (asv (v := .bool _) rfl) <| nl <| thn <| rt <| p1r (a := .bool _) rfl <| ?_
    exact ⟨by simp [h], hK⟩
  · refine gn rfl <| gn rfl <| gn rfl <| vl (pk rfl) <| vl (asv (v := .bool _) rfl) <| nl <| thn <| rt <| p1r (a := .bool _) rfl <| ?_
    exact ⟨by simp [h], hK⟩

theorem inRange_c (hK : C w) {n lo hi : Int} : Ret Tryz.prog 38 #[.int .i64 n, .int .i64 lo, .int .i64 hi] w (fun r w' => r = .bool (decide (lo ≤ n ∧ n ≤ hi)) ∧ C w') := by
  refine enter1 (args := [.int .i64 n, .int .i64 lo, .int .i64 hi]) Tryz.func38 rfl rfl rfl rfl ?_
  refine sq <| rg <| ?_
  refine vl (asv (v := .bool _) rfl) <| nl <| thn <| sq <| rg <| vl (mvv (v := .int _ _) rfl) <| vl (mvv (v := .int _ _) rfl) <| vl (le rfl rfl) <| vl (mvv (v := .bool _) rfl) <| ?_
  refine splP (t := 10) rfl (fun h => ?_) (fun h => ?_)
  · refine gy rfl <| vl (mvv (v := .int _ _) rfl) <| gy rfl <| vl (mvv (v := .int _ _) rfl) <| gy rfl <| vl (le rfl rfl) <| vl (pk rfl) <| vl (asv (v := .bool _) rfl) <| nl <| thn <| rt <| p1r (a := .bool _) rfl <| ?_
    exact ⟨by simp [h], hK⟩
  · refine gn rfl <| gn rfl <| gn rfl <| vl (pk rfl) <| vl (asv (v := .bool _) rfl) <| nl <| thn <| rt <| p1r (a := .bool _) rfl <| ?_
    exact ⟨by simp [h], hK⟩

theorem l1Point_c (hK : C w) {n : Int} : Ret Tryz.prog 17 #[.int .i64 n] w (fun r w' => r = .bool (decide (0 ≤ n ∧ n ≤ 63)) ∧ C w') := by
  refine enter1 (args := [.int .i64 n]) Tryz.func17 rfl rfl rfl rfl ?_
  refine sq <| rg <| ?_
  refine vl (asv (v := .bool _) rfl) <| nl <| thn <| sq <| rg <| vl (mvv (v := .int _ _) rfl) <| ?_
  refine cl Tryz.call49 rfl (l6In_c (C := C) hK) ?_
  rintro _ w ⟨rfl, hK⟩
  refine vl (asv (v := .bool _) rfl) <| nl <| thn <| rt <| p1r (a := .bool _) rfl <| ?_
  exact ⟨rfl, hK⟩

theorem posok_c (hK : C w) {n : Int} : Ret Tryz.prog 20 #[.int .i64 n] w (fun r w' => r = .bool (decide (0 ≤ n ∧ n ≤ 63)) ∧ C w') := by
  refine enter1 (args := [.int .i64 n]) Tryz.func20 rfl rfl rfl rfl ?_
  refine sq <| rg <| ?_
  refine vl (asv (v := .bool _) rfl) <| nl <| thn <| sq <| rg <| vl (mvv (v := .int _ _) rfl) <| vl (ge rfl rfl) <| vl (mvv (v := .bool _) rfl) <| ?_
  refine splP (t := 5) rfl (fun h => ?_) (fun h => ?_)
  · refine gy rfl <| vl (mvv (v := .int _ _) rfl) <| gy rfl <| vl (lt rfl rfl) <| vl (pk rfl) <| vl (asv (v := .bool _) rfl) <| nl <| thn <| rt <| p1r (a := .bool _) rfl <| ?_
    exact ⟨by simp [h]; omega, hK⟩
  · refine gn rfl <| gn rfl <| vl (pk rfl) <| vl (asv (v := .bool _) rfl) <| nl <| thn <| rt <| p1r (a := .bool _) rfl <| ?_
    exact ⟨by simp [h], hK⟩
end
end Go.Proofs.YtjfjnmbgimfmaaaGreat

namespace Go.Proofs.YtjfjnmbgimfmaaaGreat
open Go Go.Ro

section
variable {e w : World} {G : View} {L : Own} {C : World → Prop}

end
end Go.Proofs.YtjfjnmbgimfmaaaGreat
namespace Go.Proofs.YtjfjnmbgimfmaaaGreat
open Go Go.Ro

section
variable {e w : World} {G : View} {L : Own} {C : World → Prop}

theorem pick_c {rb : Nat} {cva : Value} {code : List Int} {p n : Int} (hK : K e w G ((rb, row [cva, .int .i64 p] 54) :: L)) (hc : BytS G cva code) (hl : code.length ≤ 2000) (h0 : 0 ≤ p) (h1 : p ≤ 1000000000) :
    Ret Tryz.prog 11 #[.pointer (some ⟨rb, 0, none⟩), .int .i64 n] w (fun r w' => (∃ k, r = .int .i64 k ∧ 0 ≤ k ∧ (1 ≤ n → k < n) ∧ (n < 1 → k = 0)) ∧ K e w' G ((rb, row [cva, .int .i64 (p + 1)] 54) :: L)) := by
  refine enter1 (args := [.pointer (some ⟨rb, 0, none⟩), .int .i64 n]) Tryz.func11 rfl rfl rfl rfl ?_
  refine sq <| rg <| ?_
  refine vl (asv (v := .int _ _) rfl) <| nl <| thn <| sq <| rg <| vl mv <| vl mv <| vl (nc rfl) <| vl (fa Tryz.underlying54 rfl Ty.z3 rfl) <| vl (ldO hK Ty.o3 0 rfl rfl rfl) <| vl (ad rfl rfl (by first | omega | (simp only; omega)) (by first | omega | (simp only; omega))) <| vl (nc rfl) <| vl (fa Tryz.underlying54 rfl Ty.z3 rfl) <| ?_
  refine so hK Ty.i3 rfl 0 rfl rfl rfl rfl rfl ?_
  intro w hK
  refine nl <| thn <| sq <| sq <| rg <| vl (mvv (v := .int _ _) rfl) <| vl (lt rfl rfl) <| vl (mvv (v := .bool _) rfl) <| ?_
  replace hK : K e w G ((rb, row [cva, .int .i64 (p + 1)] 54) :: L) := hK
  refine splP (t := 17) rfl (fun hn => ?_) (fun hn => ?_)
  · refine gn rfl <| gn rfl <| gn rfl <| gn rfl <| gn rfl <| gn rfl <| vl (pk rfl) <| nl <| thn <| ?_
    refine cdt rfl ?_
    refine sq <| rg <| ?_
    refine vl (asv (v := .int _ _) rfl) <| nl <| thn <| rt <| thr <| p1r (a := .int _ _) rfl <| ?_
    exact ⟨⟨_, rfl, by omega, by omega, fun _ => rfl⟩, hK⟩
  · refine gy rfl <| vl mv <| gy rfl <| vl (nc rfl) <| gy rfl <| vl (fa Tryz.underlying54 rfl Ty.z22 rfl) <| gy rfl <| vl (ldO hK Ty.o22 0 rfl rfl rfl) <| gy rfl <| vl (ln Tryz.underlying22 rfl hc.len) <| gy rfl <| vl (eq rfl rfl) <| vl (pk rfl) <| nl <| thn <| ?_
    refine cdP rfl (fun he => ?_) (fun he => ?_)
    · refine sq <| rg <| ?_
      refine vl (asv (v := .int _ _) rfl) <| nl <| thn <| rt <| thr <| p1r (a := .int _ _) rfl <| ?_
      exact ⟨⟨_, rfl, by omega, by omega, fun _ => rfl⟩, hK⟩
    · have hpos : 0 < code.length := by omega
      refine sk <| thn <| sq <| rg <| ?_
      refine vl mv <| vl (nc rfl) <| vl (fa Tryz.underlying54 rfl Ty.z3 rfl) <| vl (ldO hK Ty.o3 0 rfl rfl rfl) <| vl (sb rfl rfl (by first | omega | (simp only; omega)) (by first | omega | (simp only; omega))) <| vl (asv (v := .int _ _) rfl) <| nl <| thn <| sq <| sq <| rg <| vl (mvv (v := .int _ _) rfl) <| vl mv <| vl (nc rfl) <| vl (fa Tryz.underlying54 rfl Ty.z22 rfl) <| vl (ldO hK Ty.o22 0 rfl rfl rfl) <| vl (ln Tryz.underlying22 rfl hc.len) <| vl (lt rfl rfl) <| nl <| thn <| ?_
      refine cdP rfl (fun hlt => ?_) (fun hlt => ?_)
      · skip
        have hb := hc.bd (p + 1 - 1).toNat
        refine sq <| rg <| ?_
        refine vl mv <| vl (nc rfl) <| vl (fa Tryz.underlying54 rfl Ty.z22 rfl) <| vl (ldO hK Ty.o22 0 rfl rfl rfl) <| vl (mvv (v := .int _ _) rfl) <| vl (ix1 Tryz.underlying22 Ty.s5 rfl hc.1 rfl (by first | omega | (simp only; omega)) (by first | omega | (simp only; omega))) <| vl (ldV hK Ty.o5 rfl (hc.atI (by first | omega | (simp only; omega)) (by first | omega | (simp only; omega)))) <| vl (cv Tryz.underlying5 Tryz.underlying3 rfl (by first | omega | (simp only; omega)) (by first | omega | (simp only; omega))) <| vl (mvv (v := .int _ _) rfl) <| vl (rm rfl rfl (by first | omega | (simp only; omega)) (by first | omega | (simp only; omega))) <| vl (asv (v := .int _ _) rfl) <| nl <| thn <| rt <| thr <| p1r (a := .int _ _) rfl <| ?_
        have hm := Int.emod_lt_of_pos (code.getD (p + 1 - 1).toNat 0) (show 0 < n by omega)
        have hm' := Int.emod_nonneg (code.getD (p + 1 - 1).toNat 0) (show n ≠ 0 by omega)
        exact ⟨⟨_, rfl, hm', fun _ => hm, fun h => by omega⟩, hK⟩
      · skip
        refine sk <| thn <| sq <| ?_
        have m1 := Int.emod_lt_of_pos (p + 1 - 1) (show (0 : Int) < code.length by omega)
        have m1' := Int.emod_nonneg (p + 1 - 1) (show (code.length : Int) ≠ 0 by omega)
        have m2 := Int.emod_lt_of_pos ((p + 1 - 1) * 7 + 3) (show (0 : Int) < code.length by omega)
        have m2' := Int.emod_nonneg ((p + 1 - 1) * 7 + 3) (show (code.length : Int) ≠ 0 by omega)
        have b1 := hc.bd ((p + 1 - 1) % code.length).toNat
        have b2 := hc.bd (((p + 1 - 1) * 7 + 3) % code.length).toNat
        have d1 : 0 ≤ (p + 1 - 1) / (code.length : Int) := Int.ediv_nonneg (by omega) (by omega)
        have d2 : (p + 1 - 1) / (code.length : Int) ≤ p + 1 - 1 := Int.ediv_le_self _ (by omega)
        refine rgq (fun w => K _ w _ _) Ty.mixed (by kernel_rfl) (hK.drawn _) ?_
        refine qv (fun w hK => mv) <| ?_; refine qv (fun w hK => (nc rfl)) <| ?_; refine qv (fun w hK => (fa Tryz.underlying54 rfl Ty.z22 rfl)) <| ?_; refine qldO Ty.o22 0 rfl rfl rfl <| ?_; refine qv (fun w hK => (mvv (v := .int _ _) rfl)) <| ?_; refine qv (fun w hK => mv) <| ?_; refine qv (fun w hK => (nc rfl)) <| ?_; refine qv (fun w hK => (fa Tryz.underlying54 rfl Ty.z22 rfl)) <| ?_; refine qldO Ty.o22 0 rfl rfl rfl <| ?_; refine qv (fun w hK => (ln Tryz.underlying22 rfl hc.len)) <| ?_; refine qv (fun w hK => (rm rfl rfl (by first | omega | (simp only; omega)) (by first | omega | (simp only; omega)))) <| ?_; refine qv (fun w hK => (ix1 Tryz.underlying22 Ty.s5 rfl hc.1 rfl (by first | omega | (simp only; omega)) (by first | omega | (simp only; omega)))) <| ?_; refine qldV Ty.o5 rfl (hc.atI (by first | omega | (simp only; omega)) (by first | omega | (simp only; omega))) <| ?_; refine qv (fun w hK => (cv Tryz.underlying5 Tryz.underlying3 rfl (by first | omega | (simp only; omega)) (by first | omega | (simp only; omega)))) <| ?_; refine qv (fun w hK => (ml rfl rfl (by first | omega | (simp only; omega)) (by first | omega | (simp only; omega)))) <| ?_; refine qv (fun w hK => mv) <| ?_; refine qv (fun w hK => (nc rfl)) <| ?_; refine qv (fun w hK => (fa Tryz.underlying54 rfl Ty.z22 rfl)) <| ?_; refine qldO Ty.o22 0 rfl rfl rfl <| ?_; refine qv (fun w hK => (mvv (v := .int _ _) rfl)) <| ?_; refine qv (fun w hK => (ml rfl rfl (by first | omega | (simp only; omega)) (by first | omega | (simp only; omega)))) <| ?_; refine qv (fun w hK => (ad rfl rfl (by first | omega | (simp only; omega)) (by first | omega | (simp only; omega)))) <| ?_; refine qv (fun w hK => mv) <| ?_; refine qv (fun w hK => (nc rfl)) <| ?_; refine qv (fun w hK => (fa Tryz.underlying54 rfl Ty.z22 rfl)) <| ?_; refine qldO Ty.o22 0 rfl rfl rfl <| ?_; refine qv (fun w hK => (ln Tryz.underlying22 rfl hc.len)) <| ?_; refine qv (fun w hK => (rm rfl rfl (by first | omega | (simp only; omega)) (by first | omega | (simp only; omega)))) <| ?_; refine qv (fun w hK => (ix1 Tryz.underlying22 Ty.s5 rfl hc.1 rfl (by first | omega | (simp only; omega)) (by first | omega | (simp only; omega)))) <| ?_; refine qldV Ty.o5 rfl (hc.atI (by first | omega | (simp only; omega)) (by first | omega | (simp only; omega))) <| ?_; refine qv (fun w hK => (cv Tryz.underlying5 Tryz.underlying3 rfl (by first | omega | (simp only; omega)) (by first | omega | (simp only; omega)))) <| ?_; refine qv (fun w hK => (ml rfl rfl (by first | omega | (simp only; omega)) (by first | omega | (simp only; omega)))) <| ?_; refine qv (fun w hK => (ad rfl rfl (by first | omega | (simp only; omega)) (by first | omega | (simp only; omega)))) <| ?_; refine qv (fun w hK => (mvv (v := .int _ _) rfl)) <| ?_; refine qv (fun w hK => (ml rfl rfl (by first | omega | (simp only; omega)) (by first | omega | (simp only; omega)))) <| ?_; refine qv (fun w hK => (ad rfl rfl (by first | omega | (simp only; omega)) (by first | omega | (simp only; omega)))) <| ?_; refine qv (fun w hK => (mvv (v := .int _ _) rfl)) <| ?_; refine qv (fun w hK => mv) <| ?_; refine qv (fun w hK => (nc rfl)) <| ?_; refine qv (fun w hK => (fa Tryz.underlying54 rfl Ty.z22 rfl)) <| ?_; refine qldO Ty.o22 0 rfl rfl rfl <| ?_; refine qv (fun w hK => (ln Tryz.underlying22 rfl hc.len)) <| ?_; refine qv (fun w hK => (qu rfl rfl (by first | omega | (simp only; omega)) (by first | omega | (simp only; omega)) (by first | omega | (simp only; omega)))) <| ?_; refine qv (fun w hK => (ml rfl rfl (by first | omega | (simp only; omega)) (by first | omega | (simp only; omega)))) <| ?_; refine qv (fun w hK => (ad rfl rfl (by first | omega | (simp only; omega)) (by first | omega | (simp only; omega)))) <| ?_; refine qv (fun w hK => (asv (v := .int _ _) rfl)) <| ?_; refine qn <| ?_
        intro w hK
        refine thn <| sq <| rg <| vl (mvv (v := .int _ _) rfl) <| vl (mvv (v := .int _ _) rfl) <| vl (qu rfl rfl (by first | omega | (simp only; omega)) (by first | omega | (simp only; omega)) (by first | omega | (simp only; omega))) <| ?_
        generalize hx : code.getD ((p + 1 - 1) % code.length).toNat 0 * 131 + code.getD (((p + 1 - 1) * 7 + 3) % code.length).toNat 0 * 1117 + (p + 1 - 1) * 29 + (p + 1 - 1) / code.length * 53 = x
        have x0 : 0 ≤ x := by omega
        have x1 : x < 4611686018427387904 := by omega
        have hz := xorI_bd x0 x1 (show 0 ≤ x / 64 by omega) (by omega)
        refine vl (xr rfl rfl (by first | omega | (simp only; omega)) (by first | omega | (simp only; omega)) (by first | omega | (simp only; omega)) (by first | omega | (simp only; omega))) <| vl (asv (v := .int _ _) rfl) <| nl <| thn <| sq <| rg <| vl (mvv (v := .int _ _) rfl) <| vl (mvv (v := .int _ _) rfl) <| vl (rm rfl rfl (by first | omega | (simp only; omega)) (by first | omega | (simp only; omega))) <| vl (asv (v := .int _ _) rfl) <| nl <| thn <| rt <| p1r (a := .int _ _) rfl <| ?_
        have q1 := Int.emod_lt_of_pos (xorI x (x / 64)) (show 0 < n by omega)
        have q2 := Int.emod_nonneg (xorI x (x / 64)) (show n ≠ 0 by omega)
        exact ⟨⟨_, rfl, q2, fun _ => q1, fun h => by omega⟩, hK⟩

theorem pickN_c {rb : Nat} {cva : Value} {code : List Int} {p n : Int} (hK : K e w G ((rb, row [cva, .int .i64 p] 54) :: L)) (hc : BytS G cva code) (hl : code.length ≤ 2000) (h0 : 0 ≤ p) (h1 : p ≤ 1000000000) (hn : 1 ≤ n) :
    Ret Tryz.prog 11 #[.pointer (some ⟨rb, 0, none⟩), .int .i64 n] w (fun r w' => (∃ k, r = .int .i64 k ∧ 0 ≤ k ∧ k < n) ∧ K e w' G ((rb, row [cva, .int .i64 (p + 1)] 54) :: L)) :=
  (pick_c hK hc hl h0 h1).mono fun _ _ ⟨⟨k, h1, h2, h3, _⟩, h5⟩ => ⟨⟨k, h1, h2, h3 hn⟩, h5⟩

theorem l6Open_c {cva : Value} {code : List Int} (hK : K e w G L) (hc : BytS G cva code) :
    Ret Tryz.prog 9 #[cva] w (fun r w' => ∃ rb cvb cod, r = .pointer (some ⟨rb, 0, none⟩) ∧ BytS G cvb cod ∧ cod.length ≤ 2000 ∧ K e w' G ((rb, row [cvb, .int .i64 0] 54) :: L)) := by
  have hle := hc.le
  refine enter1 (args := [cva]) Tryz.func9 rfl rfl rfl rfl ?_
  refine sq <| rg <| ?_
  refine vl asg <| nl <| thn <| sq <| sq <| rg <| vl mv <| vl (ln Tryz.underlying22 rfl hc.len) <| vl (gt rfl rfl) <| nl <| thn <| ?_
  refine cdP rfl (fun h => ?_) (fun h => ?_)
  · skip
    have hcb : BytS G (slc cva 0 2000 1) ((code.take 2000).drop 0) := SlR.slc hc (by omega) (by omega)
    refine rg <| ?_
    refine vl mv <| vl (slHi (h := 2000) Tryz.underlying22 Ty.s5 rfl hc.1 rfl (by first | omega | (simp only; omega))) <| vl asg <| nl <| thn <| sq <| rg <| vl mv <| vl (bd [(0, _)] Ty.p54 Ty.i54 rfl ⟨⟨rfl, one_cells hcb.1.one⟩, trivial⟩ rfl) <| ?_
    refine bx hK rfl rfl ?_
    intro b10 w hK
    refine vl asg <| nl <| thn <| rt <| p1r (a := _) rfl <| ?_
    exact ⟨_, _, _, rfl, hcb, by simp; omega, hK⟩
  · skip
    refine sk <| thn <| sq <| rg <| ?_
    refine vl mv <| vl (bd [(0, _)] Ty.p54 Ty.i54 rfl ⟨⟨rfl, one_cells hc.1.one⟩, trivial⟩ rfl) <| ?_
    refine bx hK rfl rfl ?_
    intro b10 w hK
    refine vl asg <| nl <| thn <| rt <| p1r (a := _) rfl <| ?_
    exact ⟨_, _, _, rfl, hc, by omega, hK⟩

variable {rb : Nat} {cva : Value} {code : List Int} {p : Int}

theorem l91Point_c (hK : K e w G ((rb, row [cva, .int .i64 p] 54) :: L)) (hcode : BytS G cva code) (hlen : code.length ≤ 2000) (h0 : 0 ≤ p) (h1 : p ≤ 900000000) :
    Ret Tryz.prog 13 #[.pointer (some ⟨rb, 0, none⟩)] w (fun r w' => ∃ k p', r = .int .i64 k ∧ -1 ≤ k ∧ k ≤ 64 ∧ p ≤ p' ∧ p' ≤ p + 2 ∧ K e w' G ((rb, row [cva, .int .i64 p'] 54) :: L)) := by
  refine enter1 (args := [.pointer (some ⟨rb, 0, none⟩)]) Tryz.func13 rfl rfl rfl rfl ?_
  refine sq <| rg <| ?_
  refine vl (asv (v := .int _ _) rfl) <| nl <| thn <| sq <| sq <| rg <| vl mv <| ?_
  refine cl Tryz.call11 rfl (pickN_c hK hcode hlen (by first | omega | (simp only; omega)) (by first | omega | (simp only; omega)) (by first | omega | (simp only; omega))) ?_
  rintro _ w ⟨⟨k4, rfl, hk4, hkn4⟩, hK⟩
  refine vl (eq rfl rfl) <| nl <| thn <| ?_
  refine cdP rfl (fun h => ?_) (fun h => ?_)
  · refine sq <| rg <| ?_
    refine vl mv <| ?_
    refine cl Tryz.call11 rfl (pickN_c hK hcode hlen (by first | omega | (simp only; omega)) (by first | omega | (simp only; omega)) (by first | omega | (simp only; omega))) ?_
    rintro _ w ⟨⟨k7, rfl, hk7, hkn7⟩, hK⟩
    refine vl (ml rfl rfl (by first | omega | (simp only; omega)) (by first | omega | (simp only; omega))) <| vl (sb rfl rfl (by first | omega | (simp only; omega)) (by first | omega | (simp only; omega))) <| vl (asv (v := .int _ _) rfl) <| nl <| thn <| rt <| thr <| p1r (a := .int _ _) rfl <| ?_
    exact ⟨_, _, rfl, by omega, by omega, by omega, by omega, hK⟩
  · refine sk <| thn <| sq <| rg <| ?_
    refine vl mv <| ?_
    refine cl Tryz.call11 rfl (pickN_c hK hcode hlen (by first | omega | (simp only; omega)) (by first | omega | (simp only; omega)) (by first | omega | (simp only; omega))) ?_
    rintro _ w ⟨⟨k11, rfl, hk11, hkn11⟩, hK⟩
    refine vl (asv (v := .int _ _) rfl) <| nl <| thn <| rt <| p1r (a := .int _ _) rfl <| ?_
    exact ⟨_, _, rfl, by omega, by omega, by omega, by omega, hK⟩

end
end Go.Proofs.YtjfjnmbgimfmaaaGreat
namespace Go.Proofs.YtjfjnmbgimfmaaaGreat
open Go Go.Ro

section
variable {e w : World} {G : View} {L : Own} {v u : Value} {xs ys : List Int}

theorem set_map (xs : List Int) (i m : Nat) (hi : i < xs.length) (hm : m = xs.length) :
    (ints (xs.take i) ++ List.replicate (m - i) (Value.int .i64 0)).set (0 + i) (.int .i64 xs[i]) = ints (xs.take (i + 1)) ++ List.replicate (m - (i + 1)) (Value.int .i64 0) := by
  subst hm
  rw [Nat.zero_add, List.set_append_right _ _ (by simp [ints]; omega), List.take_succ_eq_append_getElem hi]
  have : i - (ints (xs.take i)).length = 0 := by simp [ints]; omega
  rw [this, show xs.length - i = (xs.length - (i + 1)) + 1 by omega, List.replicate_succ]
  simp only [ints, List.map_append, List.map_cons, List.map_nil, List.append_assoc, List.cons_append, List.nil_append, List.set_cons_zero]

theorem l1Has_c (hK : K e w G L) (hv : IntS G v xs) {n : Int} :
    Ret Tryz.prog 48 #[v, .int .i64 n] w (fun r w' => r = .bool (decide (n ∈ xs)) ∧ K e w' G L) := by
  have hle := hv.le
  refine enter1 (args := [v, .int .i64 n]) Tryz.func48 rfl rfl rfl rfl ?_
  refine sq <| rg <| ?_
  refine vl (asv (v := .bool _) rfl) <| nl <| thn <| sq <| sq <| rg <| vl (asv (v := .int _ _) rfl) <| nl <| thn <| bk <| ?_
  refine lp (σ := Nat) (fun i => [(0, v), (1, .int .i64 n), (5, .int .i64 (i : Int))]) (fun i w => i ≤ xs.length ∧ n ∉ xs.take i ∧ K e w G L) (fun i => xs.length - i) 0 ⟨rfl, rfl, rfl, trivial⟩ ⟨Nat.zero_le _, by simp, hK⟩ ?_
  rintro i g w ⟨hi, hn, hK⟩
  refine sq <| sq <| rg <| ?_
  refine vl (mvv (v := .int _ _) rfl) <| vl mv <| vl (ln Tryz.underlying26 rfl hv.len) <| vl (lt rfl rfl) <| nl <| thn <| ?_
  refine cdP rfl (fun hc => ?_) (fun hc => ?_)
  · refine sk <| thn <| sq <| bk <| sq <| rg <| ?_
    refine vl mv <| vl (mvv (v := .int _ _) rfl) <| vl (ixn1 Tryz.underlying26 Ty.s3 rfl hv.1 rfl (by first | omega | (simp only; omega))) <| vl (ldV hK Ty.o3 rfl (hv.at (by first | omega | (simp only; omega)))) <| vl (mvv (v := .int _ _) rfl) <| vl (eq rfl rfl) <| nl <| thn <| ?_
    refine cdP rfl (fun hx => ?_) (fun hx => ?_)
    · refine sq <| rg <| ?_
      refine vl (asv (v := .bool _) rfl) <| nl <| thn <| rt <| bkr <| thr <| thr <| bkr <| thr <| p1r (a := .bool _) rfl <| ?_
      exact ⟨by rw [decide_eq_true]; rw [← hx]; exact List.getElem_mem _, hK⟩
    · refine sk <| bkn <| thn <| rg <| ?_
      refine vl (mvv (v := .int _ _) rfl) <| vl (ad rfl rfl (by first | omega | (simp only; omega)) (by first | omega | (simp only; omega))) <| vl (asv (v := .int _ _) rfl) <| nl <| thn <| ?_
      exact ⟨i + 1, ⟨rfl, rfl, rfl, trivial⟩, ⟨by omega, by rw [List.take_succ_eq_append_getElem (by omega)]; grind, hK⟩, by omega⟩
  · refine ex <| the <| the <| bkh <| thn <| sq <| rg <| ?_
    refine vl (asv (v := .bool _) rfl) <| nl <| thn <| rt <| p1r (a := .bool _) rfl <| ?_
    have : i = xs.length := by omega
    subst this
    exact ⟨by rw [decide_eq_false]; simpa using hn, hK⟩

end
end Go.Proofs.YtjfjnmbgimfmaaaGreat