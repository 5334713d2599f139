/- Plays of a world and quiet periods, plain. Closed facts on the types of the program. Contracts of the small functions on numbers. Contracts of the functions on puzzles. Contracts of the reader of a code. Contracts of the functions that copy, compare and mark slices of numbers. Conditions: those that each row states. -/
import Derived.Test.YthblmldlkipidaaGreatDoorStM
import Derived.Test.YthblmldlkipidaaGreatDoorOx
import Derived.Test.YthblmldlkipidaaGreatDoorFin
import Derived.Test.YthblmldlkipidaaGreatDoorProg
import Derived.Test.YthblmldlkipidaaGreatDoorSs
namespace Go.Ro
open Go

abbrev Ev := Int × Int × Int × Int
def evc (x : Ev) : List Value := [.int .i64 x.1, .int .i64 x.2.1, .int .i64 x.2.2.1, .int .i64 x.2.2.2]
abbrev EvS := SlR 4 (EF evc)
noncomputable def doE (w : Wd) (x : Ev) : Wd := doW w x.1 x.2.1 x.2.2.1 x.2.2.2
noncomputable def plE (w : Wd) (es : List Ev) : Wd := es.foldl doE w
noncomputable def plF (xs : List Int) (es : List Ev) : Wd := plE (newW xs) es
def PlOk (xs : List Int) (es : List Ev) : Prop := (NdsOk xs ∧ 3 ≤ xs.length) ∧ es.length ≤ 80
/-- a quiet period -/
def calN (n : Int) : Int := min (n + 21) 999
def calW (w : Wd) : Wd := ⟨calN w.now, idl (ids w.ring), (ids w.ring).map (fun k => (k, k, utl (calN w.now))), w.items, w.scan, w.since⟩
noncomputable def calF (w : Wd) : Wd := if dec (WdOk w) = true then calW w else wdZ
theorem calF_no {w : Wd} (h : ¬ WdOk w) : calF w = wdZ := by unfold calF; rw [if_neg (by rw [dec_f h]; simp)]
theorem calF_yes {w : Wd} (h : WdOk w) : calF w = calW w := if_pos (dec_t h)
/-- after some steps of a scan from the start -/
def Sct (ls : List Ls) (ks : List Int) (i : Nat) (s : Sn) : Prop := ∃ j, j ≤ i ∧ s = itr ls ks j ∧ (∀ l, l < j → (itr ls ks l).1 < 64) ∧ (s.1 = 64 ∨ j = i)
theorem Sct.zero {ls : List Ls} {ks : List Int} : Sct ls ks 0 (0, []) := ⟨0, Nat.le_refl _, rfl, fun _ h => absurd h (Nat.not_lt_zero _), .inr rfl⟩
theorem Sct.done {ls : List Ls} {ks : List Int} {s : Sn} (hl : LsOk ls) (hk : Asc ks) (h : Sct ls ks (ls.length + 1) s) : s.1 = 64 ∧ s.2 = ks := by
  obtain ⟨j, hj, rfl, h1, h2⟩ := h
  obtain ⟨g1, _, _, g4⟩ := itr_ok hl hk j h1
  have hc := List.countP_le_length (l := ls) (p := fun x => decide (x.1 < (itr ls ks j).1))
  rcases h2 with h2 | h2
  · exact ⟨h2, (Whole.told hl hk ⟨h2, h1⟩).1⟩
  · by_cases h3 : (itr ls ks j).1 = 64
    · exact ⟨h3, (Whole.told hl hk ⟨h3, h1⟩).1⟩
    · rw [if_neg h3] at g4; omega
theorem doW_scan (w : Wd) (a b c : Int) : doW w 14 a b c = scW w := by
  unfold doW; rw [if_neg (by omega), if_neg (by omega), if_neg (by omega), if_neg (by omega), if_pos rfl]
theorem Sct.step {w : Wd} {i : Nat} {s : Sn} (ho : ∀ k, 0 ≤ own w k) (hl : LsOk w.leases) (hk : Asc (keys w.items)) (h : Sct w.leases (keys w.items) i s) :
    ∃ s', doW { w with scan := s } 14 0 0 0 = { w with scan := s' } ∧ Sct w.leases (keys w.items) (i + 1) s' := by
  obtain ⟨j, hj, rfl, h1, h2⟩ := h
  rw [doW_scan]
  unfold scW
  by_cases h3 : (itr w.leases (keys w.items) j).1 < 64
  · refine ⟨itr w.leases (keys w.items) (j + 1), if_pos ⟨h3, ho _⟩, j + 1, by omega, rfl, fun l hl => ?_, ?_⟩
    · rcases Nat.lt_succ_iff_lt_or_eq.1 hl with g | g
      · exact h1 l g
      · rw [g]; exact h3
    · rcases h2 with h2 | h2
      · omega
      · exact .inr (by omega)
  · refine ⟨itr w.leases (keys w.items) j, if_neg fun g => h3 g.1, j, by omega, rfl, h1, .inl ?_⟩
    have := (itr_ok hl hk j h1).1.1.2
    omega
end Go.Ro

namespace Go.Proofs.YthblmldlkipidaaGreatDoor
open Go Go.Ro
theorem Ty.mixed : Tryz.prog.follows .mixedOrders = true := by kernel_rfl
theorem Ty.o2 : OneC Tryz.prog 2 := ⟨_, Tryz.underlying2, rfl⟩
theorem Ty.s2 : (Tryz.prog.info? 2).map (·.size) = some 1 := by kernel_rfl
theorem Ty.i2 : Inf Tryz.prog 2 (.int .i64 0) 1 8 := by unfold Inf; kernel_rfl
theorem Ty.o3 : OneC Tryz.prog 3 := ⟨_, Tryz.underlying3, rfl⟩
theorem Ty.s3 : (Tryz.prog.info? 3).map (·.size) = some 1 := by kernel_rfl
theorem Ty.z3 : (Tryz.prog.info? 3).map (fun i => i.size == 0) = some false := by kernel_rfl
theorem Ty.i3 : Inf Tryz.prog 3 (.int .i64 0) 1 8 := by unfold Inf; kernel_rfl
theorem Ty.z4 : (Tryz.prog.info? 4).map (fun i => i.size == 0) = some false := by kernel_rfl
theorem Ty.o5 : OneC Tryz.prog 5 := ⟨_, Tryz.underlying5, rfl⟩
theorem Ty.s5 : (Tryz.prog.info? 5).map (·.size) = some 1 := by kernel_rfl
theorem Ty.o22 : OneC Tryz.prog 22 := ⟨_, Tryz.underlying22, rfl⟩
theorem Ty.z22 : (Tryz.prog.info? 22).map (fun i => i.size == 0) = some false := by kernel_rfl
theorem Ty.o23 : OneC Tryz.prog 23 := ⟨_, Tryz.underlying23, rfl⟩
theorem Ty.z23 : (Tryz.prog.info? 23).map (fun i => i.size == 0) = some false := by kernel_rfl
theorem Ty.i23 : Inf Tryz.prog 23 (.slice none 0 0) 1 24 := by unfold Inf; kernel_rfl
theorem Ty.o24 : OneC Tryz.prog 24 := ⟨_, Tryz.underlying24, rfl⟩
theorem Ty.z24 : (Tryz.prog.info? 24).map (fun i => i.size == 0) = some false := by kernel_rfl
theorem Ty.i24 : Inf Tryz.prog 24 (.slice none 0 0) 1 24 := by unfold Inf; kernel_rfl
theorem Ty.o25 : OneC Tryz.prog 25 := ⟨_, Tryz.underlying25, rfl⟩
theorem Ty.z25 : (Tryz.prog.info? 25).map (fun i => i.size == 0) = some false := by kernel_rfl
theorem Ty.i25 : Inf Tryz.prog 25 (.slice none 0 0) 1 24 := by unfold Inf; kernel_rfl
theorem Ty.o26 : OneC Tryz.prog 26 := ⟨_, Tryz.underlying26, rfl⟩
theorem Ty.z26 : (Tryz.prog.info? 26).map (fun i => i.size == 0) = some false := by kernel_rfl
theorem Ty.i26 : Inf Tryz.prog 26 (.slice none 0 0) 1 24 := by unfold Inf; kernel_rfl
theorem Ty.a28 : AggC Tryz.prog 28 := ⟨_, Tryz.underlying28, rfl⟩
theorem Ty.s28 : (Tryz.prog.info? 28).map (·.size) = some 2 := by kernel_rfl
theorem Ty.p28 : plc Tryz.prog 28 = some [(0, 1), (1, 1)] := by kernel_rfl
theorem Ty.z28 : (Tryz.prog.info? 28).map (fun i => i.size == 0) = some false := by kernel_rfl
theorem Ty.i28 : Inf Tryz.prog 28 (.agg #[(.int .i64 0), (.slice none 0 0)]) 2 32 := by unfold Inf; kernel_rfl
theorem Ty.a30 : AggC Tryz.prog 30 := ⟨_, Tryz.underlying30, rfl⟩
theorem Ty.s30 : (Tryz.prog.info? 30).map (·.size) = some 7 := by kernel_rfl
theorem Ty.p30 : plc Tryz.prog 30 = some [(0, 1), (1, 1), (2, 1), (3, 1), (4, 2), (6, 1)] := by kernel_rfl
theorem Ty.z30 : (Tryz.prog.info? 30).map (fun i => i.size == 0) = some false := by kernel_rfl
theorem Ty.i30 : Inf Tryz.prog 30 (.agg #[(.int .i64 0), (.slice none 0 0), (.slice none 0 0), (.slice none 0 0), (.int .i64 0), (.slice none 0 0), (.slice none 0 0)]) 7 136 := by unfold Inf; kernel_rfl
theorem Ty.a32 : AggC Tryz.prog 32 := ⟨_, Tryz.underlying32, rfl⟩
theorem Ty.s32 : (Tryz.prog.info? 32).map (·.size) = some 4 := by kernel_rfl
theorem Ty.p32 : plc Tryz.prog 32 = some [(0, 1), (1, 1), (2, 1), (3, 1)] := by kernel_rfl
theorem Ty.i32 : Inf Tryz.prog 32 (.agg #[(.int .i64 0), (.int .i64 0), (.int .i64 0), (.int .i64 0)]) 4 32 := by unfold Inf; kernel_rfl
theorem Ty.a40 : AggC Tryz.prog 40 := ⟨_, Tryz.underlying40, rfl⟩
theorem Ty.s40 : (Tryz.prog.info? 40).map (·.size) = some 3 := by kernel_rfl
theorem Ty.p40 : plc Tryz.prog 40 = some [(0, 1), (1, 1), (2, 1)] := by kernel_rfl
theorem Ty.i40 : Inf Tryz.prog 40 (.agg #[(.int .i64 0), (.int .i64 0), (.slice none 0 0)]) 3 40 := by unfold Inf; kernel_rfl
theorem Ty.a54 : AggC Tryz.prog 54 := ⟨_, Tryz.underlying54, rfl⟩
theorem Ty.s54 : (Tryz.prog.info? 54).map (·.size) = some 2 := by kernel_rfl
theorem Ty.p54 : plc Tryz.prog 54 = some [(0, 1), (1, 1)] := by kernel_rfl
theorem Ty.i54 : Inf Tryz.prog 54 (.agg #[(.int .i64 0), (.int .i64 0)]) 2 16 := by unfold Inf; kernel_rfl
theorem Ty.i64 : Inf Tryz.prog 64 (.pointer none) 1 8 := by unfold Inf; kernel_rfl
theorem Ty.p68 : plc Tryz.prog 68 = some [(0, 1), (1, 1)] := by kernel_rfl
theorem Ty.z71 : (Tryz.prog.info? 71).map (fun i => i.size == 0) = some false := by kernel_rfl
theorem Ty.p73 : plc Tryz.prog 73 = some [(0, 2), (2, 7)] := by kernel_rfl
theorem Ty.i73 : Inf Tryz.prog 73 (.agg #[(.int .i32 0), (.int .u32 0), (.int .i64 0), (.slice none 0 0), (.slice none 0 0), (.slice none 0 0), (.int .i64 0), (.slice none 0 0), (.slice none 0 0)]) 9 144 := by unfold Inf; kernel_rfl
theorem Ty.p98 : plc Tryz.prog 98 = some [(0, 1), (1, 1)] := by kernel_rfl
theorem Ty.i98 : Inf Tryz.prog 98 (.agg #[(.slice none 0 0), (.int .i64 0)]) 2 32 := by unfold Inf; kernel_rfl
theorem Ty.a105 : AggC Tryz.prog 105 := ⟨_, Tryz.underlying105, rfl⟩
theorem Ty.s105 : (Tryz.prog.info? 105).map (·.size) = some 3 := by kernel_rfl
theorem Ty.p105 : plc Tryz.prog 105 = some [(0, 1), (1, 1), (2, 1)] := by kernel_rfl
theorem Ty.i105 : Inf Tryz.prog 105 (.agg #[(.int .i64 0), (.int .i64 0), (.int .i64 0)]) 3 24 := by unfold Inf; kernel_rfl
theorem Ty.o149 : OneC Tryz.prog 149 := ⟨_, Tryz.underlying149, rfl⟩
theorem Ty.o158 : OneC Tryz.prog 158 := ⟨_, Tryz.underlying158, rfl⟩
theorem Ty.z158 : (Tryz.prog.info? 158).map (fun i => i.size == 0) = some false := by kernel_rfl
theorem Ty.p160 : plc Tryz.prog 160 = some [(0, 1), (1, 1)] := by kernel_rfl
theorem Ty.i160 : Inf Tryz.prog 160 (.agg #[(.int .i64 0), (.pointer none)]) 2 16 := by unfold Inf; kernel_rfl
theorem Ty.p195 : plc Tryz.prog 195 = some [(0, 1)] := by kernel_rfl
theorem Ty.i195 : Inf Tryz.prog 195 (.agg #[(.slice none 0 0)]) 1 24 := by unfold Inf; kernel_rfl
end Go.Proofs.YthblmldlkipidaaGreatDoor

namespace Go.Proofs.YthblmldlkipidaaGreatDoor
open Go Go.Ro

section
variable {w : World} {C : World → Prop}

theorem l6In_c (hK : C w) {n lo hi : Int} : Ret Tryz.prog 94 #[.int .i64 n, .int .i64 lo, .int .i64 hi] w (fun r w' => r = .bool (decide (lo ≤ n ∧ n ≤ hi)) ∧ C w') := by
 refine enter1 (args := [.int .i64 n, .int .i64 lo, .int .i64 hi]) Tryz.func94 rfl rfl rfl rfl ?_
 refine sq <| rg <| ?_
 refine vl (aB rfl) <| nl <| thn <| sq <| rg <| vl (mI rfl) <| vl (mI rfl) <| vl (ge rfl rfl) <| vl (mB rfl) <| ?_
 refine splP (t := 10) rfl (fun h => ?_) (fun h => ?_)
 ·refine gy rfl <| vl (mI rfl) <| gy rfl <| vl (mI rfl) <| gy rfl <| vl (le rfl rfl) <| vl (pk rfl) <| vl (aB rfl) <| nl <| thn <| rt <| p1r (a := .bool _) rfl <| ?_
  exact ⟨by simp [h], hK⟩
 ·refine gn rfl <| gn rfl <| gn rfl <| vl (pk rfl) <| vl (aB rfl) <| nl <| thn <| rt <| p1r (a := .bool _) rfl <| ?_
  exact ⟨by simp [h], hK⟩

theorem inRange_c (hK : C w) {n lo hi : Int} : Ret Tryz.prog 63 #[.int .i64 n, .int .i64 lo, .int .i64 hi] w (fun r w' => r = .bool (decide (lo ≤ n ∧ n ≤ hi)) ∧ C w') := by
 refine enter1 (args := [.int .i64 n, .int .i64 lo, .int .i64 hi]) Tryz.func63 rfl rfl rfl rfl ?_
 refine sq <| rg <| ?_
 refine vl (aB rfl) <| nl <| thn <| sq <| rg <| vl (mI rfl) <| vl (mI rfl) <| vl (le rfl rfl) <| vl (mB rfl) <| ?_
 refine splP (t := 10) rfl (fun h => ?_) (fun h => ?_)
 ·refine gy rfl <| vl (mI rfl) <| gy rfl <| vl (mI rfl) <| gy rfl <| vl (le rfl rfl) <| vl (pk rfl) <| vl (aB rfl) <| nl <| thn <| rt <| p1r (a := .bool _) rfl <| ?_
  exact ⟨by simp [h], hK⟩
 ·refine gn rfl <| gn rfl <| gn rfl <| vl (pk rfl) <| vl (aB rfl) <| nl <| thn <| rt <| p1r (a := .bool _) rfl <| ?_
  exact ⟨by simp [h], hK⟩

theorem l1Point_c (hK : C w) {n : Int} : Ret Tryz.prog 97 #[.int .i64 n] w (fun r w' => r = .bool (decide (0 ≤ n ∧ n ≤ 63)) ∧ C w') := by
 refine enter1 (args := [.int .i64 n]) Tryz.func97 rfl rfl rfl rfl ?_
 refine sq <| rg <| ?_
 refine vl (aB rfl) <| nl <| thn <| sq <| rg <| vl (mI rfl) <| ?_
 refine cl Tryz.call94 rfl (l6In_c (C := C) hK) ?_
 rintro _ w ⟨rfl, hK⟩
 refine vl (aB rfl) <| nl <| thn <| rt <| p1r (a := .bool _) rfl <| ?_
 exact ⟨rfl, hK⟩

theorem posok_c (hK : C w) {n : Int} : Ret Tryz.prog 70 #[.int .i64 n] w (fun r w' => r = .bool (decide (0 ≤ n ∧ n ≤ 63)) ∧ C w') := by
 refine enter1 (args := [.int .i64 n]) Tryz.func70 rfl rfl rfl rfl ?_
 refine sq <| rg <| ?_
 refine vl (aB rfl) <| nl <| thn <| sq <| rg <| vl (mI rfl) <| vl (ge rfl rfl) <| vl (mB rfl) <| ?_
 refine splP (t := 5) rfl (fun h => ?_) (fun h => ?_)
 ·refine gy rfl <| vl (mI rfl) <| gy rfl <| vl (lt rfl rfl) <| vl (pk rfl) <| vl (aB rfl) <| nl <| thn <| rt <| p1r (a := .bool _) rfl <| ?_
  exact ⟨by simp [h]; omega, hK⟩
 ·refine gn rfl <| gn rfl <| vl (pk rfl) <| vl (aB rfl) <| nl <| thn <| rt <| p1r (a := .bool _) rfl <| ?_
  exact ⟨by simp [h], hK⟩
end
end Go.Proofs.YthblmldlkipidaaGreatDoor

namespace Go.Proofs.YthblmldlkipidaaGreatDoor
open Go Go.Ro

section
variable {e w : World} {G : View} {L : Own} {C : World → Prop}

end
end Go.Proofs.YthblmldlkipidaaGreatDoor
namespace Go.Proofs.YthblmldlkipidaaGreatDoor
open Go Go.Ro

section
variable {e w : World} {G : View} {L : Own} {C : World → Prop}

theorem pick_c {rb : Nat} {cva : Value} {code : List Int} {p n : Int} (hK : K e w G ((rb, row [cva, .int .i64 p] 98) :: L)) (hc : BytS G cva code) (hl : code.length ≤ 2000) (h0 : 0 ≤ p) (h1 : p ≤ 1000000000) :
  Ret Tryz.prog 32 #[.pointer (some ⟨rb, 0, none⟩), .int .i64 n] w (fun r w' => (∃ k, r = .int .i64 k ∧ 0 ≤ k ∧ (1 ≤ n → k < n) ∧ (n < 1 → k = 0)) ∧ K e w' G ((rb, row [cva, .int .i64 (p + 1)] 98) :: L)) := by
 refine enter1 (args := [.pointer (some ⟨rb, 0, none⟩), .int .i64 n]) Tryz.func32 rfl rfl rfl rfl ?_
 refine sq <| rg <| ?_
 refine vl (aI rfl) <| nl <| thn <| sq <| rg <| vl mv <| vl mv <| vl (nc rfl) <| vl (fa Tryz.underlying98 rfl Ty.z3 rfl) <| vl (ldO hK Ty.o3 0 rfl rfl rfl) <| vl (ad rfl rfl) <| vl (nc rfl) <| vl (fa Tryz.underlying98 rfl Ty.z3 rfl) <| ?_
 refine so hK Ty.i3 rfl 0 rfl rfl rfl rfl rfl ?_
 intro w hK
 refine nl <| thn <| sq <| sq <| rg <| vl (mI rfl) <| vl (lt rfl rfl) <| vl (mB rfl) <| ?_
 replace hK : K e w G ((rb, row [cva, .int .i64 (p + 1)] 98) :: L) := hK
 refine splP (t := 17) rfl (fun hn => ?_) (fun hn => ?_)
 ·refine gn rfl <| gn rfl <| gn rfl <| gn rfl <| gn rfl <| gn rfl <| vl (pk rfl) <| nl <| thn <| ?_
  refine cdt rfl ?_
  refine sq <| rg <| ?_
  refine vl (aI rfl) <| nl <| thn <| rt <| thr <| p1r (a := .int _ _) rfl <| ?_
  exact ⟨⟨_, rfl, by omega, by omega, fun _ => rfl⟩, hK⟩
 ·refine gy rfl <| vl mv <| gy rfl <| vl (nc rfl) <| gy rfl <| vl (fa Tryz.underlying98 rfl Ty.z22 rfl) <| gy rfl <| vl (ldO hK Ty.o22 0 rfl rfl rfl) <| gy rfl <| vl (ln Tryz.underlying22 rfl hc.len) <| gy rfl <| vl (eq rfl rfl) <| vl (pk rfl) <| nl <| thn <| ?_
  refine cdP rfl (fun he => ?_) (fun he => ?_)
  ·refine sq <| rg <| ?_
   refine vl (aI rfl) <| nl <| thn <| rt <| thr <| p1r (a := .int _ _) rfl <| ?_
   exact ⟨⟨_, rfl, by omega, by omega, fun _ => rfl⟩, hK⟩
  ·have hpos : 0 < code.length := by omega
   refine sk <| thn <| sq <| rg <| ?_
   refine vl mv <| vl (nc rfl) <| vl (fa Tryz.underlying98 rfl Ty.z3 rfl) <| vl (ldO hK Ty.o3 0 rfl rfl rfl) <| vl (sb rfl rfl) <| vl (aI rfl) <| nl <| thn <| sq <| sq <| rg <| vl (mI rfl) <| vl mv <| vl (nc rfl) <| vl (fa Tryz.underlying98 rfl Ty.z22 rfl) <| vl (ldO hK Ty.o22 0 rfl rfl rfl) <| vl (ln Tryz.underlying22 rfl hc.len) <| vl (lt rfl rfl) <| nl <| thn <| ?_
   refine cdP rfl (fun hlt => ?_) (fun hlt => ?_)
   ·skip
    have hb := hc.bd (p + 1 - 1).toNat
    refine sq <| rg <| ?_
    refine vl mv <| vl (nc rfl) <| vl (fa Tryz.underlying98 rfl Ty.z22 rfl) <| vl (ldO hK Ty.o22 0 rfl rfl rfl) <| vl (mI rfl) <| vl (ix1 Tryz.underlying22 Ty.s5 rfl hc.1 rfl (by first | omega | (simp only; omega)) (by first | omega | (simp only; omega))) <| vl (ldV hK Ty.o5 rfl (hc.atI (by first | omega | (simp only; omega)) (by first | omega | (simp only; omega)))) <| vl (cv Tryz.underlying5 Tryz.underlying3 rfl (by first | omega | (simp only; omega)) (by first | omega | (simp only; omega))) <| vl (mI rfl) <| vl (rm rfl rfl) <| vl (aI rfl) <| nl <| thn <| rt <| thr <| p1r (a := .int _ _) rfl <| ?_
    have hm := Int.emod_lt_of_pos (code.getD (p + 1 - 1).toNat 0) (show 0 < n by omega)
    have hm' := Int.emod_nonneg (code.getD (p + 1 - 1).toNat 0) (show n ≠ 0 by omega)
    exact ⟨⟨_, rfl, hm', fun _ => hm, fun h => by omega⟩, hK⟩
   ·skip
    refine sk <| thn <| sq <| ?_
    have m1 := Int.emod_lt_of_pos (p + 1 - 1) (show (0 : Int) < code.length by omega)
    have m1' := Int.emod_nonneg (p + 1 - 1) (show (code.length : Int) ≠ 0 by omega)
    have m2 := Int.emod_lt_of_pos ((p + 1 - 1) * 7 + 3) (show (0 : Int) < code.length by omega)
    have m2' := Int.emod_nonneg ((p + 1 - 1) * 7 + 3) (show (code.length : Int) ≠ 0 by omega)
    have b1 := hc.bd ((p + 1 - 1) % code.length).toNat
    have b2 := hc.bd (((p + 1 - 1) * 7 + 3) % code.length).toNat
    have d1 : 0 ≤ (p + 1 - 1) / (code.length : Int) := Int.ediv_nonneg (by omega) (by omega)
    have d2 : (p + 1 - 1) / (code.length : Int) ≤ p + 1 - 1 := Int.ediv_le_self _ (by omega)
    refine rgq (fun w => K _ w _ _) Ty.mixed (by kernel_rfl) (hK.drawn _) ?_
    refine qv (fun w hK => mv) <| ?_; refine qv (fun w hK => (nc rfl)) <| ?_; refine qv (fun w hK => (fa Tryz.underlying98 rfl Ty.z22 rfl)) <| ?_; refine qldO Ty.o22 0 rfl rfl rfl <| ?_; refine qv (fun w hK => (mI rfl)) <| ?_; refine qv (fun w hK => mv) <| ?_; refine qv (fun w hK => (nc rfl)) <| ?_; refine qv (fun w hK => (fa Tryz.underlying98 rfl Ty.z22 rfl)) <| ?_; refine qldO Ty.o22 0 rfl rfl rfl <| ?_; refine qv (fun w hK => (ln Tryz.underlying22 rfl hc.len)) <| ?_; refine qv (fun w hK => (rm rfl rfl)) <| ?_; refine qv (fun w hK => (ix1 Tryz.underlying22 Ty.s5 rfl hc.1 rfl (by first | omega | (simp only; omega)) (by first | omega | (simp only; omega)))) <| ?_; refine qldV Ty.o5 rfl (hc.atI (by first | omega | (simp only; omega)) (by first | omega | (simp only; omega))) <| ?_; refine qv (fun w hK => (cv Tryz.underlying5 Tryz.underlying3 rfl (by first | omega | (simp only; omega)) (by first | omega | (simp only; omega)))) <| ?_; refine qv (fun w hK => (ml rfl rfl)) <| ?_; refine qv (fun w hK => mv) <| ?_; refine qv (fun w hK => (nc rfl)) <| ?_; refine qv (fun w hK => (fa Tryz.underlying98 rfl Ty.z22 rfl)) <| ?_; refine qldO Ty.o22 0 rfl rfl rfl <| ?_; refine qv (fun w hK => (mI rfl)) <| ?_; refine qv (fun w hK => (ml rfl rfl)) <| ?_; refine qv (fun w hK => (ad rfl rfl)) <| ?_; refine qv (fun w hK => mv) <| ?_; refine qv (fun w hK => (nc rfl)) <| ?_; refine qv (fun w hK => (fa Tryz.underlying98 rfl Ty.z22 rfl)) <| ?_; refine qldO Ty.o22 0 rfl rfl rfl <| ?_; refine qv (fun w hK => (ln Tryz.underlying22 rfl hc.len)) <| ?_; refine qv (fun w hK => (rm rfl rfl)) <| ?_; refine qv (fun w hK => (ix1 Tryz.underlying22 Ty.s5 rfl hc.1 rfl (by first | omega | (simp only; omega)) (by first | omega | (simp only; omega)))) <| ?_; refine qldV Ty.o5 rfl (hc.atI (by first | omega | (simp only; omega)) (by first | omega | (simp only; omega))) <| ?_; refine qv (fun w hK => (cv Tryz.underlying5 Tryz.underlying3 rfl (by first | omega | (simp only; omega)) (by first | omega | (simp only; omega)))) <| ?_; refine qv (fun w hK => (ml rfl rfl)) <| ?_; refine qv (fun w hK => (ad rfl rfl)) <| ?_; refine qv (fun w hK => (mI rfl)) <| ?_; refine qv (fun w hK => (ml rfl rfl)) <| ?_; refine qv (fun w hK => (ad rfl rfl)) <| ?_; refine qv (fun w hK => (mI rfl)) <| ?_; refine qv (fun w hK => mv) <| ?_; refine qv (fun w hK => (nc rfl)) <| ?_; refine qv (fun w hK => (fa Tryz.underlying98 rfl Ty.z22 rfl)) <| ?_; refine qldO Ty.o22 0 rfl rfl rfl <| ?_; refine qv (fun w hK => (ln Tryz.underlying22 rfl hc.len)) <| ?_; refine qv (fun w hK => (qu rfl rfl (by first | omega | (simp only; omega)) (by first | omega | (simp only; omega)) (by first | omega | (simp only; omega)))) <| ?_; refine qv (fun w hK => (ml rfl rfl)) <| ?_; refine qv (fun w hK => (ad rfl rfl)) <| ?_; refine qv (fun w hK => (aI rfl)) <| ?_; refine qn <| ?_
    intro w hK
    refine thn <| sq <| rg <| vl (mI rfl) <| vl (mI rfl) <| vl (qu rfl rfl (by first | omega | (simp only; omega)) (by first | omega | (simp only; omega)) (by first | omega | (simp only; omega))) <| ?_
    generalize hx : code.getD ((p + 1 - 1) % code.length).toNat 0 * 131 + code.getD (((p + 1 - 1) * 7 + 3) % code.length).toNat 0 * 1117 + (p + 1 - 1) * 29 + (p + 1 - 1) / code.length * 53 = x
    have x0 : 0 ≤ x := by omega
    have x1 : x < 4611686018427387904 := by omega
    have hz := xorI_bd x0 x1 (show 0 ≤ x / 64 by omega) (by omega)
    refine vl (xr rfl rfl (by first | omega | (simp only; omega)) (by first | omega | (simp only; omega)) (by first | omega | (simp only; omega)) (by first | omega | (simp only; omega))) <| vl (aI rfl) <| nl <| thn <| sq <| rg <| vl (mI rfl) <| vl (mI rfl) <| vl (rm rfl rfl) <| vl (aI rfl) <| nl <| thn <| rt <| p1r (a := .int _ _) rfl <| ?_
    have q1 := Int.emod_lt_of_pos (xorI x (x / 64)) (show 0 < n by omega)
    have q2 := Int.emod_nonneg (xorI x (x / 64)) (show n ≠ 0 by omega)
    exact ⟨⟨_, rfl, q2, fun _ => q1, fun h => by omega⟩, hK⟩

theorem pickN_c {rb : Nat} {cva : Value} {code : List Int} {p n : Int} (hK : K e w G ((rb, row [cva, .int .i64 p] 98) :: L)) (hc : BytS G cva code) (hl : code.length ≤ 2000) (h0 : 0 ≤ p) (h1 : p ≤ 1000000000) (hn : 1 ≤ n) :
  Ret Tryz.prog 32 #[.pointer (some ⟨rb, 0, none⟩), .int .i64 n] w (fun r w' => (∃ k, r = .int .i64 k ∧ 0 ≤ k ∧ k < n) ∧ K e w' G ((rb, row [cva, .int .i64 (p + 1)] 98) :: L)) :=
 (pick_c hK hc hl h0 h1).mono fun _ _ ⟨⟨k, h1, h2, h3, _⟩, h5⟩ => ⟨⟨k, h1, h2, h3 hn⟩, h5⟩

theorem l6Open_c {cva : Value} {code : List Int} (hK : K e w G L) (hc : BytS G cva code) :
  Ret Tryz.prog 29 #[cva] w (fun r w' => ∃ rb cvb cod, r = .pointer (some ⟨rb, 0, none⟩) ∧ BytS G cvb cod ∧ cod.length ≤ 2000 ∧ K e w' G ((rb, row [cvb, .int .i64 0] 98) :: L)) := by
 have hle := hc.le
 refine enter1 (args := [cva]) Tryz.func29 rfl rfl rfl rfl ?_
 refine sq <| rg <| ?_
 refine vl asg <| nl <| thn <| sq <| sq <| rg <| vl mv <| vl (ln Tryz.underlying22 rfl hc.len) <| vl (gt rfl rfl) <| nl <| thn <| ?_
 refine cdP rfl (fun h => ?_) (fun h => ?_)
 ·skip
  have hcb : BytS G (slc cva 0 2000 1) ((code.take 2000).drop 0) := SlR.slc hc (by omega) (by omega)
  refine rg <| ?_
  refine vl mv <| vl (slHi (h := 2000) Tryz.underlying22 Ty.s5 rfl hc.1 rfl (by first | omega | (simp only; omega))) <| vl asg <| nl <| thn <| sq <| rg <| vl mv <| vl (bd [(0, _)] Ty.p98 Ty.i98 rfl ⟨⟨rfl, one_cells hcb.1.one⟩, trivial⟩ rfl) <| ?_
  refine bx hK rfl rfl ?_
  intro b10 w hK
  refine vl asg <| nl <| thn <| rt <| p1r (a := _) rfl <| ?_
  exact ⟨_, _, _, rfl, hcb, by simp; omega, hK⟩
 ·skip
  refine sk <| thn <| sq <| rg <| ?_
  refine vl mv <| vl (bd [(0, _)] Ty.p98 Ty.i98 rfl ⟨⟨rfl, one_cells hc.1.one⟩, trivial⟩ rfl) <| ?_
  refine bx hK rfl rfl ?_
  intro b10 w hK
  refine vl asg <| nl <| thn <| rt <| p1r (a := _) rfl <| ?_
  exact ⟨_, _, _, rfl, hc, by omega, hK⟩

variable {rb : Nat} {cva : Value} {code : List Int} {p : Int}

theorem l91Point_c (hK : K e w G ((rb, row [cva, .int .i64 p] 98) :: L)) (hcode : BytS G cva code) (hlen : code.length ≤ 2000) (h0 : 0 ≤ p) (h1 : p ≤ 900000000) :
  Ret Tryz.prog 74 #[.pointer (some ⟨rb, 0, none⟩)] w (fun r w' => ∃ k p', r = .int .i64 k ∧ -1 ≤ k ∧ k ≤ 64 ∧ p ≤ p' ∧ p' ≤ p + 2 ∧ K e w' G ((rb, row [cva, .int .i64 p'] 98) :: L)) := by
 refine enter1 (args := [.pointer (some ⟨rb, 0, none⟩)]) Tryz.func74 rfl rfl rfl rfl ?_
 refine sq <| rg <| ?_
 refine vl (aI rfl) <| nl <| thn <| sq <| sq <| rg <| vl mv <| ?_
 refine cl Tryz.call32 rfl (pickN_c hK hcode hlen (by first | omega | (simp only; omega)) (by first | omega | (simp only; omega)) (by first | omega | (simp only; omega))) ?_
 rintro _ w ⟨⟨k4, rfl, hk4, hkn4⟩, hK⟩
 refine vl (eq rfl rfl) <| nl <| thn <| ?_
 refine cdP rfl (fun h => ?_) (fun h => ?_)
 ·refine sq <| rg <| ?_
  refine vl mv <| ?_
  refine cl Tryz.call32 rfl (pickN_c hK hcode hlen (by first | omega | (simp only; omega)) (by first | omega | (simp only; omega)) (by first | omega | (simp only; omega))) ?_
  rintro _ w ⟨⟨k7, rfl, hk7, hkn7⟩, hK⟩
  refine vl (ml rfl rfl) <| vl (sb rfl rfl) <| vl (aI rfl) <| nl <| thn <| rt <| thr <| p1r (a := .int _ _) rfl <| ?_
  exact ⟨_, _, rfl, by omega, by omega, by omega, by omega, hK⟩
 ·refine sk <| thn <| sq <| rg <| ?_
  refine vl mv <| ?_
  refine cl Tryz.call32 rfl (pickN_c hK hcode hlen (by first | omega | (simp only; omega)) (by first | omega | (simp only; omega)) (by first | omega | (simp only; omega))) ?_
  rintro _ w ⟨⟨k11, rfl, hk11, hkn11⟩, hK⟩
  refine vl (aI rfl) <| nl <| thn <| rt <| p1r (a := .int _ _) rfl <| ?_
  exact ⟨_, _, rfl, by omega, by omega, by omega, by omega, hK⟩

end
end Go.Proofs.YthblmldlkipidaaGreatDoor
namespace Go.Proofs.YthblmldlkipidaaGreatDoor
open Go Go.Ro

section
variable {e w : World} {G : View} {L : Own} {v u : Value} {xs ys : List Int}

theorem sameInts_c (hK : K e w G L) (hv : IntS G v xs) (hu : IntS G u ys) :
  Ret Tryz.prog 25 #[v, u] w (fun r w' => r = .bool (decide (xs = ys)) ∧ K e w' G L) := by
 have hle := hv.le
 refine enter1 (args := [v, u]) Tryz.func25 rfl rfl rfl rfl ?_
 refine sq <| rg <| ?_
 refine vl (aB rfl) <| nl <| thn <| sq <| sq <| rg <| vl mv <| vl (ln Tryz.underlying26 rfl hv.len) <| vl mv <| vl (ln Tryz.underlying26 rfl hu.len) <| vl (ne rfl rfl) <| nl <| thn <| ?_
 refine cdP rfl (fun h => ?_) (fun h => ?_)
 ·refine sq <| rg <| ?_
  refine vl (aB rfl) <| nl <| thn <| rt <| thr <| p1r (a := .bool _) rfl <| ?_
  exact ⟨by rw [decide_eq_false]; rintro rfl; exact h rfl, hK⟩
 ·have hlen : xs.length = ys.length := by omega
  refine sk <| thn <| sq <| sq <| rg <| ?_
  refine vl (aI rfl) <| nl <| thn <| bk <| ?_
  refine lp (σ := Nat) (fun i => [(0, v), (1, u), (5, .int .i64 (i : Int))]) (fun i w => i ≤ xs.length ∧ xs.take i = ys.take i ∧ K e w G L) (fun i => xs.length - i) 0 ⟨rfl, rfl, rfl, trivial⟩ ⟨Nat.zero_le _, by simp, hK⟩ ?_
  rintro i g w ⟨hi, ht, hK⟩
  refine sq <| sq <| rg <| ?_
  refine vl (mI rfl) <| vl mv <| vl (ln Tryz.underlying26 rfl hv.len) <| vl (lt rfl rfl) <| nl <| thn <| ?_
  refine cdP rfl (fun hc => ?_) (fun hc => ?_)
  ·refine sk <| thn <| sq <| bk <| sq <| ?_
   refine rgq (fun w => K _ w _ _) Ty.mixed (by kernel_rfl) (hK.drawn _) ?_
   refine qv (fun w hK => mv) <| ?_; refine qv (fun w hK => (mI rfl)) <| ?_; refine qv (fun w hK => (ixn1 Tryz.underlying26 Ty.s3 rfl hv.1 rfl (by first | omega | (simp only; omega)))) <| ?_; refine qldV Ty.o3 rfl (hv.at (by first | omega | (simp only; omega))) <| ?_; refine qv (fun w hK => mv) <| ?_; refine qv (fun w hK => (mI rfl)) <| ?_; refine qv (fun w hK => (ixn1 Tryz.underlying26 Ty.s3 rfl hu.1 rfl (by first | omega | (simp only; omega)))) <| ?_; refine qldV Ty.o3 rfl (hu.at (by first | omega | (simp only; omega))) <| ?_; refine qv (fun w hK => (ne rfl rfl)) <| ?_; refine qn <| ?_
   intro w hK
   refine thn <| ?_
   refine cdP rfl (fun hx => ?_) (fun hx => ?_)
   ·refine sq <| rg <| ?_
    refine vl (aB rfl) <| nl <| thn <| rt <| bkr <| thr <| thr <| bkr <| thr <| p1r (a := .bool _) rfl <| ?_
    exact ⟨by rw [decide_eq_false]; rintro rfl; exact hx rfl, hK⟩
   ·refine sk <| bkn <| thn <| rg <| ?_
    refine vl (mI rfl) <| vl (ad rfl rfl) <| vl (aI rfl) <| nl <| thn <| ?_
    exact ⟨i + 1, ⟨rfl, rfl, rfl, trivial⟩, ⟨by omega, by rw [List.take_succ_eq_append_getElem (by omega), List.take_succ_eq_append_getElem (by omega), ht, Decidable.not_not.1 hx], hK⟩, by omega⟩
  ·refine ex <| the <| the <| bkh <| thn <| sq <| rg <| ?_
   refine vl (aB rfl) <| nl <| thn <| rt <| p1r (a := .bool _) rfl <| ?_
   exact ⟨by rw [decide_eq_true]; rw [List.take_of_length_le (by omega), List.take_of_length_le (by omega)] at ht; exact ht, hK⟩

theorem l1Has_c (hK : K e w G L) (hv : IntS G v xs) {n : Int} :
  Ret Tryz.prog 49 #[v, .int .i64 n] w (fun r w' => r = .bool (decide (n ∈ xs)) ∧ K e w' G L) := by
 have hle := hv.le
 refine enter1 (args := [v, .int .i64 n]) Tryz.func49 rfl rfl rfl rfl ?_
 refine sq <| rg <| ?_
 refine vl (aB rfl) <| nl <| thn <| sq <| sq <| rg <| vl (aI rfl) <| nl <| thn <| bk <| ?_
 refine lp (σ := Nat) (fun i => [(0, v), (1, .int .i64 n), (5, .int .i64 (i : Int))]) (fun i w => i ≤ xs.length ∧ n ∉ xs.take i ∧ K e w G L) (fun i => xs.length - i) 0 ⟨rfl, rfl, rfl, trivial⟩ ⟨Nat.zero_le _, by simp, hK⟩ ?_
 rintro i g w ⟨hi, hn, hK⟩
 refine sq <| sq <| rg <| ?_
 refine vl (mI rfl) <| vl mv <| vl (ln Tryz.underlying26 rfl hv.len) <| vl (lt rfl rfl) <| nl <| thn <| ?_
 refine cdP rfl (fun hc => ?_) (fun hc => ?_)
 ·refine sk <| thn <| sq <| bk <| sq <| rg <| ?_
  refine vl mv <| vl (mI rfl) <| vl (ixn1 Tryz.underlying26 Ty.s3 rfl hv.1 rfl (by first | omega | (simp only; omega))) <| vl (ldV hK Ty.o3 rfl (hv.at (by first | omega | (simp only; omega)))) <| vl (mI rfl) <| vl (eq rfl rfl) <| nl <| thn <| ?_
  refine cdP rfl (fun hx => ?_) (fun hx => ?_)
  ·refine sq <| rg <| ?_
   refine vl (aB rfl) <| nl <| thn <| rt <| bkr <| thr <| thr <| bkr <| thr <| p1r (a := .bool _) rfl <| ?_
   exact ⟨by rw [decide_eq_true]; rw [← hx]; exact List.getElem_mem _, hK⟩
  ·refine sk <| bkn <| thn <| rg <| ?_
   refine vl (mI rfl) <| vl (ad rfl rfl) <| vl (aI rfl) <| nl <| thn <| ?_
   exact ⟨i + 1, ⟨rfl, rfl, rfl, trivial⟩, ⟨by omega, by rw [List.take_succ_eq_append_getElem (by omega)]; grind, hK⟩, by omega⟩
 ·refine ex <| the <| the <| bkh <| thn <| sq <| rg <| ?_
  refine vl (aB rfl) <| nl <| thn <| rt <| p1r (a := .bool _) rfl <| ?_
  have : i = xs.length := by omega
  subst this
  exact ⟨by rw [decide_eq_false]; simpa using hn, hK⟩

end
end Go.Proofs.YthblmldlkipidaaGreatDoor