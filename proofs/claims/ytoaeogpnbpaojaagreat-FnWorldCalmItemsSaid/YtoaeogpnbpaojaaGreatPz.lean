/- Two error variables of a package; what operations on leases return. Plays of a world and quiet periods, plain. Closed facts on the types of the program. Contracts of the small functions on numbers. Contracts of the functions on puzzles. Conditions: those that each row states. -/
import Derived.Test.YtoaeogpnbpaojaaGreatIns
import Derived.Test.YtoaeogpnbpaojaaGreatStM
import Derived.Test.YtoaeogpnbpaojaaGreatFin
import Derived.Test.YtoaeogpnbpaojaaGreatProg
import Derived.Test.YtoaeogpnbpaojaaGreatPsM
namespace Go.Ro
open Go
/-- the package's two variables hold two pointers of their own -/
def ErrS (TE : Nat) (G : View) (a0 a1 : Addr) : Prop :=
  cellV G ⟨0, 0, none⟩ = some (.iface TE (.pointer (some a0))) ∧ cellV G ⟨1, 0, none⟩ = some (.iface TE (.pointer (some a1))) ∧ a0 ≠ a1 ∧
    (∃ c t, G a0.block = some (.cells c t (0, 0))) ∧ (∃ c t, G a1.block = some (.cells c t (0, 0)))
theorem ErrS.mono {TE : Nat} {G G' : View} {a0 a1 : Addr} (h : ErrS TE G a0 a1) (hG : VLe G G') : ErrS TE G' a0 a1 :=
  ⟨cellV.mono hG h.1, cellV.mono hG h.2.1, h.2.2.1, by obtain ⟨c, t, hc⟩ := h.2.2.2.1; exact ⟨c, t, hG _ _ hc⟩, by obtain ⟨c, t, hc⟩ := h.2.2.2.2; exact ⟨c, t, hG _ _ hc⟩⟩
def HdR (TE : Nat) (a0 a1 : Addr) (lc : Ls → List Value) (G : View) (ls : List Ls) (ok : Prop) (o : Option (List Ls)) (r : Value) : Prop :=
  (¬ (LsOk ls ∧ ok) ∧ r = .tuple #[.slice none 0 0, .iface TE (.pointer (some a0))]) ∨ (LsOk ls ∧ ok ∧ o = none ∧ r = .tuple #[.slice none 0 0, .iface TE (.pointer (some a1))]) ∨
    ∃ v x, LsOk ls ∧ ok ∧ o = some x ∧ r = .tuple #[v, .nilIface] ∧ SlR 3 (EF lc) G v x
theorem BsR.at {ls : List Ls} {k : Int} {i : Nat} {b : Bool} (h : BsR (fun x : Ls => x.1) ls k i b) (y : Ls) :
    ls.takeWhile (fun x => decide (x.1 < k)) ++ y :: ls.dropWhile (fun x => decide (x.1 < k)) = ls.take i ++ y :: ls.drop i := by
  rw [h.take.1, h.take.2]
end Go.Ro

namespace Go.Ro
open Go

abbrev Ev := Int × Int × Int × Int
def evc (x : Ev) : List Value := [.int .i64 x.1, .int .i64 x.2.1, .int .i64 x.2.2.1, .int .i64 x.2.2.2]
abbrev EvS := SlR 4 (EF evc)
noncomputable def doE (w : Wd) (x : Ev) : Wd := doW w x.1 x.2.1 x.2.2.1 x.2.2.2
noncomputable def plE (w : Wd) (es : List Ev) : Wd := es.foldl doE w
noncomputable def plF (xs : List Int) (es : List Ev) : Wd := plE (newW xs) es
def PlOk (xs : List Int) (es : List Ev) : Prop := (NdsOk xs ∧ 3 ≤ xs.length) ∧ es.length ≤ 80
/-- a quiet period -/
def calN (n : Int) : Int := min (n + 21) 999
def calW (w : Wd) : Wd := ⟨calN w.now, idl (ids w.ring), (ids w.ring).map (fun k => (k, k, utl (calN w.now))), w.items, w.scan, w.since⟩
noncomputable def calF (w : Wd) : Wd := if dec (WdOk w) = true then calW w else wdZ
theorem calF_no {w : Wd} (h : ¬ WdOk w) : calF w = wdZ := by unfold calF; rw [if_neg (by rw [dec_f h]; simp)]
theorem calF_yes {w : Wd} (h : WdOk w) : calF w = calW w := if_pos (dec_t h)
theorem nds_ids {r : List Nd} (h : RgSafe r) : NdsOk (ids r) := ⟨⟨by have := ids3 h; omega, by rw [ids_len]; exact h.1.1⟩, ids_asc h.1⟩
theorem calN_tm {n : Int} (h : Tm n) : Tm (calN n) := by unfold Tm calN at *; omega
theorem calW_ok {w : Wd} (h : WdOk w) : WdOk (calW w) :=
  ⟨calN_tm h.1, idl_safe (nds_ids h.2.1) (ids3 h.2.1), newLs_ok (nds_ids h.2.1) (utl_tm (calN_tm h.1)), h.2.2.2.1, h.2.2.2.2.1, h.2.2.2.2.2.1, h.2.2.2.2.2.2⟩
/-- after some steps of a scan from the start -/
def Sct (ls : List Ls) (ks : List Int) (i : Nat) (s : Sn) : Prop := ∃ j, j ≤ i ∧ s = itr ls ks j ∧ (∀ l, l < j → (itr ls ks l).1 < 64) ∧ (s.1 = 64 ∨ j = i)
theorem Sct.zero {ls : List Ls} {ks : List Int} : Sct ls ks 0 (0, []) := ⟨0, Nat.le_refl _, rfl, fun _ h => absurd h (Nat.not_lt_zero _), .inr rfl⟩
theorem Sct.done {ls : List Ls} {ks : List Int} {s : Sn} (hl : LsOk ls) (hk : Asc ks) (h : Sct ls ks (ls.length + 1) s) : s.1 = 64 ∧ s.2 = ks := by
  obtain ⟨j, hj, rfl, h1, h2⟩ := h
  obtain ⟨g1, _, _, g4⟩ := itr_ok hl hk j h1
  have hc := List.countP_le_length (l := ls) (p := fun x => decide (x.1 < (itr ls ks j).1))
  rcases h2 with h2 | h2
  · exact ⟨h2, (Whole.told hl hk ⟨h2, h1⟩).1⟩
  · by_cases h3 : (itr ls ks j).1 = 64
    · exact ⟨h3, (Whole.told hl hk ⟨h3, h1⟩).1⟩
    · rw [if_neg h3] at g4; omega
theorem doW_scan (w : Wd) (a b c : Int) : doW w 14 a b c = scW w := by
  unfold doW; rw [if_neg (by omega), if_neg (by omega), if_neg (by omega), if_neg (by omega), if_pos rfl]
theorem Sct.step {w : Wd} {i : Nat} {s : Sn} (ho : ∀ k, 0 ≤ own w k) (hl : LsOk w.leases) (hk : Asc (keys w.items)) (h : Sct w.leases (keys w.items) i s) :
    ∃ s', doW { w with scan := s } 14 0 0 0 = { w with scan := s' } ∧ Sct w.leases (keys w.items) (i + 1) s' := by
  obtain ⟨j, hj, rfl, h1, h2⟩ := h
  rw [doW_scan]
  unfold scW
  by_cases h3 : (itr w.leases (keys w.items) j).1 < 64
  · refine ⟨itr w.leases (keys w.items) (j + 1), if_pos ⟨h3, ho _⟩, j + 1, by omega, rfl, fun l hl => ?_, ?_⟩
    · rcases Nat.lt_succ_iff_lt_or_eq.1 hl with g | g
      · exact h1 l g
      · rw [g]; exact h3
    · rcases h2 with h2 | h2
      · omega
      · exact .inr (by omega)
  · refine ⟨itr w.leases (keys w.items) j, if_neg fun g => h3 g.1, j, by omega, rfl, h1, .inl ?_⟩
    have := (itr_ok hl hk j h1).1.1.2
    omega
end Go.Ro

namespace Go.Proofs.YtoaeogpnbpaojaaGreat
open Go Go.Ro
theorem Ty.mixed : Tryz.prog.follows .mixedOrders = true := by kernel_rfl
theorem Ty.o2 : OneC Tryz.prog 2 := ⟨_, Tryz.underlying2, rfl⟩
theorem Ty.s2 : (Tryz.prog.info? 2).map (·.size) = some 1 := by kernel_rfl
theorem Ty.i2 : Inf Tryz.prog 2 (.int .i64 0) 1 8 := by unfold Inf; kernel_rfl
theorem Ty.o3 : OneC Tryz.prog 3 := ⟨_, Tryz.underlying3, rfl⟩
theorem Ty.s3 : (Tryz.prog.info? 3).map (·.size) = some 1 := by kernel_rfl
theorem Ty.z3 : (Tryz.prog.info? 3).map (fun i => i.size == 0) = some false := by kernel_rfl
theorem Ty.i3 : Inf Tryz.prog 3 (.int .i64 0) 1 8 := by unfold Inf; kernel_rfl
theorem Ty.z4 : (Tryz.prog.info? 4).map (fun i => i.size == 0) = some false := by kernel_rfl
theorem Ty.o5 : OneC Tryz.prog 5 := ⟨_, Tryz.underlying5, rfl⟩
theorem Ty.s5 : (Tryz.prog.info? 5).map (·.size) = some 1 := by kernel_rfl
theorem Ty.o22 : OneC Tryz.prog 22 := ⟨_, Tryz.underlying22, rfl⟩
theorem Ty.z22 : (Tryz.prog.info? 22).map (fun i => i.size == 0) = some false := by kernel_rfl
theorem Ty.o23 : OneC Tryz.prog 23 := ⟨_, Tryz.underlying23, rfl⟩
theorem Ty.z23 : (Tryz.prog.info? 23).map (fun i => i.size == 0) = some false := by kernel_rfl
theorem Ty.i23 : Inf Tryz.prog 23 (.slice none 0 0) 1 24 := by unfold Inf; kernel_rfl
theorem Ty.o24 : OneC Tryz.prog 24 := ⟨_, Tryz.underlying24, rfl⟩
theorem Ty.z24 : (Tryz.prog.info? 24).map (fun i => i.size == 0) = some false := by kernel_rfl
theorem Ty.i24 : Inf Tryz.prog 24 (.slice none 0 0) 1 24 := by unfold Inf; kernel_rfl
theorem Ty.o25 : OneC Tryz.prog 25 := ⟨_, Tryz.underlying25, rfl⟩
theorem Ty.z25 : (Tryz.prog.info? 25).map (fun i => i.size == 0) = some false := by kernel_rfl
theorem Ty.i25 : Inf Tryz.prog 25 (.slice none 0 0) 1 24 := by unfold Inf; kernel_rfl
theorem Ty.o26 : OneC Tryz.prog 26 := ⟨_, Tryz.underlying26, rfl⟩
theorem Ty.z26 : (Tryz.prog.info? 26).map (fun i => i.size == 0) = some false := by kernel_rfl
theorem Ty.i26 : Inf Tryz.prog 26 (.slice none 0 0) 1 24 := by unfold Inf; kernel_rfl
theorem Ty.a28 : AggC Tryz.prog 28 := ⟨_, Tryz.underlying28, rfl⟩
theorem Ty.s28 : (Tryz.prog.info? 28).map (·.size) = some 2 := by kernel_rfl
theorem Ty.p28 : plc Tryz.prog 28 = some [(0, 1), (1, 1)] := by kernel_rfl
theorem Ty.z28 : (Tryz.prog.info? 28).map (fun i => i.size == 0) = some false := by kernel_rfl
theorem Ty.i28 : Inf Tryz.prog 28 (.agg #[(.int .i64 0), (.slice none 0 0)]) 2 32 := by unfold Inf; kernel_rfl
theorem Ty.a30 : AggC Tryz.prog 30 := ⟨_, Tryz.underlying30, rfl⟩
theorem Ty.s30 : (Tryz.prog.info? 30).map (·.size) = some 7 := by kernel_rfl
theorem Ty.p30 : plc Tryz.prog 30 = some [(0, 1), (1, 1), (2, 1), (3, 1), (4, 2), (6, 1)] := by kernel_rfl
theorem Ty.i30 : Inf Tryz.prog 30 (.agg #[(.int .i64 0), (.slice none 0 0), (.slice none 0 0), (.slice none 0 0), (.int .i64 0), (.slice none 0 0), (.slice none 0 0)]) 7 136 := by unfold Inf; kernel_rfl
theorem Ty.p44 : plc Tryz.prog 44 = some [(0, 1), (1, 1), (2, 1), (3, 1), (4, 2), (6, 1)] := by kernel_rfl
theorem Ty.a68 : AggC Tryz.prog 68 := ⟨_, Tryz.underlying68, rfl⟩
theorem Ty.s68 : (Tryz.prog.info? 68).map (·.size) = some 2 := by kernel_rfl
theorem Ty.p68 : plc Tryz.prog 68 = some [(0, 1), (1, 1)] := by kernel_rfl
theorem Ty.i68 : Inf Tryz.prog 68 (.agg #[(.int .i64 0), (.int .i64 0)]) 2 16 := by unfold Inf; kernel_rfl
theorem Ty.p88 : plc Tryz.prog 88 = some [(0, 1), (1, 1)] := by kernel_rfl
theorem Ty.i88 : Inf Tryz.prog 88 (.agg #[(.slice none 0 0), (.int .i64 0)]) 2 32 := by unfold Inf; kernel_rfl
theorem Ty.a98 : AggC Tryz.prog 98 := ⟨_, Tryz.underlying98, rfl⟩
theorem Ty.s98 : (Tryz.prog.info? 98).map (·.size) = some 4 := by kernel_rfl
theorem Ty.p98 : plc Tryz.prog 98 = some [(0, 1), (1, 1), (2, 1), (3, 1)] := by kernel_rfl
theorem Ty.i98 : Inf Tryz.prog 98 (.agg #[(.int .i64 0), (.int .i64 0), (.int .i64 0), (.int .i64 0)]) 4 32 := by unfold Inf; kernel_rfl
theorem Ty.a102 : AggC Tryz.prog 102 := ⟨_, Tryz.underlying102, rfl⟩
theorem Ty.s102 : (Tryz.prog.info? 102).map (·.size) = some 3 := by kernel_rfl
theorem Ty.p102 : plc Tryz.prog 102 = some [(0, 1), (1, 1), (2, 1)] := by kernel_rfl
theorem Ty.i102 : Inf Tryz.prog 102 (.agg #[(.int .i64 0), (.int .i64 0), (.int .i64 0)]) 3 24 := by unfold Inf; kernel_rfl
theorem Ty.a106 : AggC Tryz.prog 106 := ⟨_, Tryz.underlying106, rfl⟩
theorem Ty.s106 : (Tryz.prog.info? 106).map (·.size) = some 3 := by kernel_rfl
theorem Ty.p106 : plc Tryz.prog 106 = some [(0, 1), (1, 1), (2, 1)] := by kernel_rfl
theorem Ty.i106 : Inf Tryz.prog 106 (.agg #[(.int .i64 0), (.int .i64 0), (.slice none 0 0)]) 3 40 := by unfold Inf; kernel_rfl
theorem Ty.p155 : plc Tryz.prog 155 = some [(0, 1)] := by kernel_rfl
theorem Ty.i155 : Inf Tryz.prog 155 (.agg #[(.slice none 0 0)]) 1 24 := by unfold Inf; kernel_rfl
theorem Ty.p162 : plc Tryz.prog 162 = some [(0, 0)] := by kernel_rfl
end Go.Proofs.YtoaeogpnbpaojaaGreat

namespace Go.Proofs.YtoaeogpnbpaojaaGreat
open Go Go.Ro

section
variable {w : World} {C : World → Prop}

theorem l6In_c (hK : C w) {n lo hi : Int} : Ret Tryz.prog 95 #[.int .i64 n, .int .i64 lo, .int .i64 hi] w (fun r w' => r = .bool (decide (lo ≤ n ∧ n ≤ hi)) ∧ C w') := by
 refine enter1 (args := [.int .i64 n, .int .i64 lo, .int .i64 hi]) Tryz.func95 rfl rfl rfl rfl ?_
 refine sq <| rg <| ?_
 refine vl (aB rfl) <| nl <| thn <| sq <| rg <| vl (mI rfl) <| vl (mI rfl) <| vl (ge rfl rfl) <| vl (mB rfl) <| ?_
 refine splP (t := 10) rfl (fun h => ?_) (fun h => ?_)
 ·refine gy rfl <| vl (mI rfl) <| gy rfl <| vl (mI rfl) <| gy rfl <| vl (le rfl rfl) <| vl (pk rfl) <| vl (aB rfl) <| nl <| thn <| rt <| p1r (a := .bool _) rfl <| ?_
  exact ⟨by simp [h], hK⟩
 ·refine gn rfl <| gn rfl <| gn rfl <| vl (pk rfl) <| vl (aB rfl) <| nl <| thn <| rt <| p1r (a := .bool _) rfl <| ?_
  exact ⟨by simp [h], hK⟩

theorem inRange_c (hK : C w) {n lo hi : Int} : Ret Tryz.prog 48 #[.int .i64 n, .int .i64 lo, .int .i64 hi] w (fun r w' => r = .bool (decide (lo ≤ n ∧ n ≤ hi)) ∧ C w') := by
 refine enter1 (args := [.int .i64 n, .int .i64 lo, .int .i64 hi]) Tryz.func48 rfl rfl rfl rfl ?_
 refine sq <| rg <| ?_
 refine vl (aB rfl) <| nl <| thn <| sq <| rg <| vl (mI rfl) <| vl (mI rfl) <| vl (le rfl rfl) <| vl (mB rfl) <| ?_
 refine splP (t := 10) rfl (fun h => ?_) (fun h => ?_)
 ·refine gy rfl <| vl (mI rfl) <| gy rfl <| vl (mI rfl) <| gy rfl <| vl (le rfl rfl) <| vl (pk rfl) <| vl (aB rfl) <| nl <| thn <| rt <| p1r (a := .bool _) rfl <| ?_
  exact ⟨by simp [h], hK⟩
 ·refine gn rfl <| gn rfl <| gn rfl <| vl (pk rfl) <| vl (aB rfl) <| nl <| thn <| rt <| p1r (a := .bool _) rfl <| ?_
  exact ⟨by simp [h], hK⟩

theorem l1Point_c (hK : C w) {n : Int} : Ret Tryz.prog 98 #[.int .i64 n] w (fun r w' => r = .bool (decide (0 ≤ n ∧ n ≤ 63)) ∧ C w') := by
 refine enter1 (args := [.int .i64 n]) Tryz.func98 rfl rfl rfl rfl ?_
 refine sq <| rg <| ?_
 refine vl (aB rfl) <| nl <| thn <| sq <| rg <| vl (mI rfl) <| ?_
 refine cl Tryz.call95 rfl (l6In_c (C := C) hK) ?_
 rintro _ w ⟨rfl, hK⟩
 refine vl (aB rfl) <| nl <| thn <| rt <| p1r (a := .bool _) rfl <| ?_
 exact ⟨rfl, hK⟩

theorem posok_c (hK : C w) {n : Int} : Ret Tryz.prog 106 #[.int .i64 n] w (fun r w' => r = .bool (decide (0 ≤ n ∧ n ≤ 63)) ∧ C w') := by
 refine enter1 (args := [.int .i64 n]) Tryz.func106 rfl rfl rfl rfl ?_
 refine sq <| rg <| ?_
 refine vl (aB rfl) <| nl <| thn <| sq <| rg <| vl (mI rfl) <| vl (ge rfl rfl) <| vl (mB rfl) <| ?_
 refine splP (t := 5) rfl (fun h => ?_) (fun h => ?_)
 ·refine gy rfl <| vl (mI rfl) <| gy rfl <| vl (lt rfl rfl) <| vl (pk rfl) <| vl (aB rfl) <| nl <| thn <| rt <| p1r (a := .bool _) rfl <| ?_
  exact ⟨by simp [h]; omega, hK⟩
 ·refine gn rfl <| gn rfl <| vl (pk rfl) <| vl (aB rfl) <| nl <| thn <| rt <| p1r (a := .bool _) rfl <| ?_
  exact ⟨by simp [h], hK⟩
end
end Go.Proofs.YtoaeogpnbpaojaaGreat

namespace Go.Proofs.YtoaeogpnbpaojaaGreat
open Go Go.Ro

section
variable {e w : World} {G : View} {L : Own} {C : World → Prop}

end
end Go.Proofs.YtoaeogpnbpaojaaGreat