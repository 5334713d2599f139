/- Contracts of the functions on puzzles. Conditions: those that each row states. -/
import Derived.Test.YtnjijnlckbaggaaSc
import Derived.Test.YtnjijnlckbaggaaPzM
namespace Go.Proofs.Ytnjijnlckbaggaa
open Go Go.Ro

section
variable {e w : World} {G : View} {L : Own} {C : World → Prop}

theorem l32Hash_c (hK : C w) {id nonce : Int} (h1 : 0 ≤ id) (h2 : id ≤ 63) (h3 : 0 ≤ nonce) (h4 : nonce ≤ 255) :
    Ret Try.prog 48 #[.int .i64 id, .int .i64 nonce] w (fun r w' => r = .int .i64 (pzHash id nonce) ∧ C w') := by
  have hn := pzN_bd id nonce
  refine enter1 (args := [.int .i64 id, .int .i64 nonce]) Try.func48 rfl rfl rfl rfl ?_
  refine sq <| rg <| ?_
  refine vl (asv (v := .int _ _) rfl) <| nl <| thn <| sq <| rg <| vl (mvv (v := .int _ _) rfl) <| vl (ml rfl rfl (by first | omega | (simp only; omega)) (by first | omega | (simp only; omega))) <| vl (mvv (v := .int _ _) rfl) <| vl (ml rfl rfl (by first | omega | (simp only; omega)) (by first | omega | (simp only; omega))) <| vl (ad rfl rfl (by first | omega | (simp only; omega)) (by first | omega | (simp only; omega))) <| vl (ad rfl rfl (by first | omega | (simp only; omega)) (by first | omega | (simp only; omega))) <| vl (rm rfl rfl (by first | omega | (simp only; omega)) (by first | omega | (simp only; omega))) <| ?_
  change WL _ _ _ _ _ (upd _ _ (.int .i64 (pzN id nonce))) _
  have hm := mul_bd (a := pzN id nonce) (b := pzN id nonce + nonce + 7) hn.1 hn.2 (by omega) (show _ ≤ 2000 by omega)
  refine vl (asv (v := .int _ _) rfl) <| nl <| thn <| sq <| rg <| vl (mvv (v := .int _ _) rfl) <| vl (mvv (v := .int _ _) rfl) <| vl (mvv (v := .int _ _) rfl) <| vl (ad rfl rfl (by first | omega | (simp only; omega)) (by first | omega | (simp only; omega))) <| vl (ad rfl rfl (by first | omega | (simp only; omega)) (by first | omega | (simp only; omega))) <| vl (ml rfl rfl (by first | omega | (simp only; omega)) (by first | omega | (simp only; omega))) <| vl (rm rfl rfl (by first | omega | (simp only; omega)) (by first | omega | (simp only; omega))) <| vl (asv (v := .int _ _) rfl) <| nl <| thn <| ?_
  refine rt <| p1r (a := .int _ _) rfl <| ?_
  exact ⟨rfl, hK⟩

theorem earnedHash_c (hK : C w) {id nonce : Int} (h1 : 0 ≤ id) (h2 : id ≤ 63) (h3 : 0 ≤ nonce) (h4 : nonce ≤ 255) :
    Ret Try.prog 71 #[.int .i64 id, .int .i64 nonce] w (fun r w' => r = .int .i64 (pzHash id nonce) ∧ C w') := by
  have hn := pzN_bd id nonce
  refine enter1 (args := [.int .i64 id, .int .i64 nonce]) Try.func71 rfl rfl rfl rfl ?_
  refine sq <| rg <| ?_
  refine vl (asv (v := .int _ _) rfl) <| nl <| thn <| sq <| rg <| vl (mvv (v := .int _ _) rfl) <| vl (ml rfl rfl (by first | omega | (simp only; omega)) (by first | omega | (simp only; omega))) <| vl (mvv (v := .int _ _) rfl) <| vl (ml rfl rfl (by first | omega | (simp only; omega)) (by first | omega | (simp only; omega))) <| vl (ad rfl rfl (by first | omega | (simp only; omega)) (by first | omega | (simp only; omega))) <| vl (ad rfl rfl (by first | omega | (simp only; omega)) (by first | omega | (simp only; omega))) <| vl (rm rfl rfl (by first | omega | (simp only; omega)) (by first | omega | (simp only; omega))) <| ?_
  change WL _ _ _ _ _ (upd _ _ (.int .i64 (pzN id nonce))) _
  have hm := mul_bd (a := pzN id nonce) (b := pzN id nonce + nonce + 7) hn.1 hn.2 (by omega) (show _ ≤ 2000 by omega)
  refine vl (asv (v := .int _ _) rfl) <| nl <| thn <| sq <| rg <| vl (mvv (v := .int _ _) rfl) <| vl (mvv (v := .int _ _) rfl) <| vl (mvv (v := .int _ _) rfl) <| vl (ad rfl rfl (by first | omega | (simp only; omega)) (by first | omega | (simp only; omega))) <| vl (ad rfl rfl (by first | omega | (simp only; omega)) (by first | omega | (simp only; omega))) <| vl (ml rfl rfl (by first | omega | (simp only; omega)) (by first | omega | (simp only; omega))) <| vl (rm rfl rfl (by first | omega | (simp only; omega)) (by first | omega | (simp only; omega))) <| vl (asv (v := .int _ _) rfl) <| nl <| thn <| ?_
  refine rt <| p1r (a := .int _ _) rfl <| ?_
  exact ⟨rfl, hK⟩

theorem noHash_c (hK : K e w G L) {nonce : Int} :
    Ret Try.prog 72 #[.agg #[], .int .i64 nonce] w (fun r w' => r = .int .i64 (-1) ∧ K e w' G L) := by
  refine enter1 (args := [.agg #[], .int .i64 nonce]) Try.func72 rfl rfl rfl rfl ?_
  refine sq <| rg <| ?_
  refine bx hK rfl rfl ?_
  intro b2 w hK
  refine vl (asv (v := .int _ _) rfl) <| nl <| thn <| sq <| rg <| vl (asv (v := .int _ _) rfl) <| nl <| thn <| rt <| p1r (a := .int _ _) rfl <| ?_
  exact ⟨rfl, hK.drop1⟩

def puz (id : Int) : Value := if 0 ≤ id ∧ id ≤ 63 then .iface 62 (.int .i64 id) else .iface 66 (.agg #[])

theorem puzzleOf_c (hK : C w) {id : Int} : Ret Try.prog 39 #[.int .i64 id] w (fun r w' => r = puz id ∧ C w') := by
  refine enter1 (args := [.int .i64 id]) Try.func39 rfl rfl rfl rfl ?_
  refine sq <| rg <| ?_
  refine vl asg <| nl <| thn <| sq <| sq <| rg <| vl (mvv (v := .int _ _) rfl) <| ?_
  refine cl Try.call49 rfl (posok_c (C := C) hK) ?_
  rintro _ w ⟨rfl, hK⟩
  refine nl <| thn <| ?_
  refine cdP rfl (fun h => ?_) (fun h => ?_)
  · refine sq <| rg <| ?_
    refine vl (mvv (v := .int _ _) rfl) <| vl (mi ⟨_, Try.underlying62, rfl⟩ rfl) <| vl asg <| nl <| thn <| rt <| thr <| p1r (a := _) rfl <| ?_
    exact ⟨by unfold puz; rw [if_pos h]; rfl, hK⟩
  · refine sk <| thn <| sq <| rg <| ?_
    refine vl (bd [] Ty.p66 Ty.i66 rfl trivial rfl) <| vl (mi ⟨_, Try.underlying66, rfl⟩ rfl) <| vl asg <| nl <| thn <| rt <| p1r (a := _) rfl <| ?_
    exact ⟨by unfold puz; rw [if_neg h]; rfl, hK⟩

theorem implPuzzleHash_c (hK : K e w G L) {id nonce : Int} : Ret Try.prog 17 #[.int .i64 id, .int .i64 nonce] w (fun r w' => r = .int .i64 (pzVal id nonce) ∧ K e w' G L) := by
  refine enter1 (args := [.int .i64 id, .int .i64 nonce]) Try.func17 rfl rfl rfl rfl ?_
  refine sq <| rg <| ?_
  refine vl (asv (v := .int _ _) rfl) <| nl <| thn <| sq <| sq <| rg <| vl (mvv (v := .int _ _) rfl) <| ?_
  refine cl Try.call37 rfl (inRange_c (C := fun w => K _ w _ _) hK) ?_
  rintro _ w ⟨rfl, hK⟩
  refine vl (nt rfl) <| nl <| thn <| ?_
  refine cdP rfl (fun h => ?_) (fun h => ?_)
  · refine sq <| rg <| ?_
    refine vl (asv (v := .int _ _) rfl) <| nl <| thn <| rt <| thr <| p1r (a := .int _ _) rfl <| ?_
    exact ⟨by unfold pzVal; rw [if_neg (by omega)], hK⟩
  · refine sk <| thn <| sq <| rg <| ?_
    refine vl (mvv (v := .int _ _) rfl) <| ?_
    refine cl Try.call39 rfl (puzzleOf_c (C := fun w => K _ w _ _) hK) ?_
    rintro _ w ⟨rfl, hK⟩
    refine vl (mvv (v := .int _ _) rfl) <| ?_
    by_cases hid : 0 ≤ id ∧ id ≤ 63
    · have hp : puz id = .iface 62 (.int .i64 id) := by unfold puz; rw [if_pos hid]
      refine ci (fun _ _ => by kernel_rfl) hp rfl (earnedHash_c (C := fun w => K _ w _ _) hK hid.1 hid.2 (by first | omega | (simp only; omega)) (by first | omega | (simp only; omega))) ?_
      rintro _ w ⟨rfl, hK⟩
      refine vl (asv (v := .int _ _) rfl) <| nl <| thn <| rt <| p1r (a := .int _ _) rfl <| ?_
      exact ⟨by unfold pzVal; rw [if_pos (by omega)], hK⟩
    · have hp : puz id = .iface 66 (.agg #[]) := by unfold puz; rw [if_neg hid]
      refine ci (fun _ _ => by kernel_rfl) hp rfl (noHash_c hK) ?_
      rintro _ w ⟨rfl, hK⟩
      refine vl (asv (v := .int _ _) rfl) <| nl <| thn <| rt <| p1r (a := .int _ _) rfl <| ?_
      exact ⟨by unfold pzVal; rw [if_neg (by omega)], hK⟩

theorem specOk32_c (hK : C w) {id nonce : Int} {b : Nat} (h1 : 0 ≤ id) (h2 : id ≤ 63) (h3 : 0 ≤ nonce) (h4 : nonce ≤ 255) (hb : b ≤ 5) :
    Ret Try.prog 36 #[.int .i64 id, .int .i64 nonce, .int .i64 (b : Int)] w (fun r w' => r = .bool (decide (pzHash id nonce % 2 ^ b = 0)) ∧ C w') := by
  refine enter1 (args := [.int .i64 id, .int .i64 nonce, .int .i64 (b : Int)]) Try.func36 rfl rfl rfl rfl ?_
  refine sq <| rg <| ?_
  refine vl (asv (v := .bool _) rfl) <| nl <| thn <| sq <| rg <| vl (asv (v := .int _ _) rfl) <| nl <| thn <| sq <| sq <| rg <| vl (asv (v := .int _ _) rfl) <| nl <| thn <| bk <| ?_
  refine lp (σ := Nat) (fun i => [(0, .int .i64 id), (1, .int .i64 nonce), (2, .int .i64 (b : Int)), (7, .int .i64 ((2 : Int) ^ i)), (8, .int .i64 (i : Int))]) (fun i w => i ≤ b ∧ C w) (fun i => b - i) 0 ⟨rfl, rfl, rfl, rfl, rfl, trivial⟩ ⟨Nat.zero_le _, hK⟩ ?_
  rintro i g w ⟨hi, hK⟩
  refine sq <| sq <| rg <| ?_
  refine vl (mvv (v := .int _ _) rfl) <| vl (mvv (v := .int _ _) rfl) <| vl (lt rfl rfl) <| nl <| thn <| ?_
  refine cdP rfl (fun hc => ?_) (fun hc => ?_)
  · have hp := powN_le (k := i) (by omega)
    refine sk <| thn <| sq <| bk <| rg <| ?_
    refine vl (mvv (v := .int _ _) rfl) <| vl (ml rfl rfl (by first | omega | (simp only; omega)) (by first | omega | (simp only; omega))) <| vl (asv (v := .int _ _) rfl) <| nl <| bkn <| thn <| rg <| vl (mvv (v := .int _ _) rfl) <| vl (ad rfl rfl (by first | omega | (simp only; omega)) (by first | omega | (simp only; omega))) <| vl (asv (v := .int _ _) rfl) <| nl <| thn <| ?_
    exact ⟨i + 1, ⟨rfl, rfl, rfl, by rw [Int.pow_succ, Int.mul_comm]; rfl, rfl, trivial⟩, ⟨by omega, hK⟩, by omega⟩
  · have hib : i = b := by omega
    subst hib
    have hp := powN_le (k := i) hb
    have hh := pzHash_bd id nonce
    refine ex <| the <| the <| bkh <| thn <| sq <| rg <| ?_
    refine vl (mvv (v := .int _ _) rfl) <| vl (mvv (v := .int _ _) rfl) <| ?_
    refine cl Try.call48 rfl (l32Hash_c (C := C) hK h1 h2 h3 h4) ?_
    rintro _ w ⟨rfl, hK⟩
    refine vl (mvv (v := .int _ _) rfl) <| vl (rm rfl rfl (by first | omega | (simp only; omega)) (by first | omega | (simp only; omega))) <| vl (eq rfl rfl) <| vl (asv (v := .bool _) rfl) <| nl <| thn <| rt <| p1r (a := .bool _) rfl <| ?_
    exact ⟨rfl, hK⟩

theorem specPuzzleOk_c (hK : C w) {id nonce bits : Int} : Ret Try.prog 16 #[.int .i64 id, .int .i64 nonce, .int .i64 bits] w (fun r w' => r = .bool (decide (pzOk id nonce bits)) ∧ C w') := by
  refine enter1 (args := [.int .i64 id, .int .i64 nonce, .int .i64 bits]) Try.func16 rfl rfl rfl rfl ?_
  refine sq <| rg <| ?_
  refine vl (asv (v := .bool _) rfl) <| nl <| thn <| sq <| rg <| vl (mvv (v := .int _ _) rfl) <| ?_
  refine cl Try.call34 rfl (l1Point_c (C := C) hK) ?_
  rintro _ w ⟨rfl, hK⟩
  refine vl (mvv (v := .bool _) rfl) <| ?_
  refine splP (t := 9) rfl (fun h => ?_) (fun h => ?_)
  · refine gy rfl <| vl (mvv (v := .int _ _) rfl) <| gy rfl <| ?_
    refine cl Try.call35 rfl (l6In_c (C := C) hK) ?_
    rintro _ w ⟨rfl, hK⟩
    refine vl (pk rfl) <| vl (mvv (v := .bool _) rfl) <| ?_
    refine splP (t := 13) rfl (fun h' => ?_) (fun h' => ?_)
    · refine gy rfl <| vl (mvv (v := .int _ _) rfl) <| gy rfl <| ?_
      refine cl Try.call35 rfl (l6In_c (C := C) hK) ?_
      rintro _ w ⟨rfl, hK⟩
      refine vl (pk rfl) <| vl (mvv (v := .bool _) rfl) <| ?_
      refine splP (t := 17) rfl (fun h'' => ?_) (fun h'' => ?_)
      · refine gy rfl <| vl (mvv (v := .int _ _) rfl) <| gy rfl <| vl (mvv (v := .int _ _) rfl) <| gy rfl <| vl (mvv (v := .int _ _) rfl) <| gy rfl <| ?_
        obtain ⟨b, rfl⟩ := Int.eq_ofNat_of_zero_le h''.1
        refine cl Try.call36 rfl (specOk32_c (C := C) hK h.1 h.2 h'.1 h'.2 (by first | omega | (simp only; omega))) ?_
        rintro _ w ⟨rfl, hK⟩
        refine vl (pk rfl) <| vl (asv (v := .bool _) rfl) <| nl <| thn <| rt <| p1r (a := .bool _) rfl <| ?_
        exact ⟨by unfold pzOk; simp [h, h', h''], hK⟩
      · refine gn rfl <| gn rfl <| gn rfl <| gn rfl <| vl (pk rfl) <| vl (asv (v := .bool _) rfl) <| nl <| thn <| rt <| p1r (a := .bool _) rfl <| ?_
        exact ⟨by unfold pzOk; simp [h, h', h''], hK⟩
    · refine gn rfl <| gn rfl <| vl (pk rfl) <| vl (mvv (v := .bool _) rfl) <| gn rfl <| gn rfl <| gn rfl <| gn rfl <| vl (pk rfl) <| vl (asv (v := .bool _) rfl) <| nl <| thn <| rt <| p1r (a := .bool _) rfl <| ?_
      exact ⟨by unfold pzOk; simp [h, h'], hK⟩
  · refine gn rfl <| gn rfl <| vl (pk rfl) <| vl (mvv (v := .bool _) rfl) <| gn rfl <| gn rfl <| vl (pk rfl) <| vl (mvv (v := .bool _) rfl) <| gn rfl <| gn rfl <| gn rfl <| gn rfl <| vl (pk rfl) <| vl (asv (v := .bool _) rfl) <| nl <| thn <| ?_
    refine rt <| p1r (a := .bool _) rfl <| ?_
    exact ⟨by unfold pzOk; simp [h], hK⟩

theorem solves_c (hK : K e w G L) {id nonce bits : Int} (h3 : 0 ≤ nonce) (h4 : nonce ≤ 255) (h5 : 0 ≤ bits) (h6 : bits ≤ 5) :
    Ret Try.prog 38 #[puz id, .int .i64 nonce, .int .i64 bits] w (fun r w' => r = .bool (decide (pzOk id nonce bits)) ∧ K e w' G L) := by
  refine enter1 (args := [puz id, .int .i64 nonce, .int .i64 bits]) Try.func38 rfl rfl rfl rfl ?_
  refine sq <| rg <| ?_
  refine vl (asv (v := .bool _) rfl) <| nl <| thn <| sq <| sq <| rg <| vl mv <| nl <| thn <| bk <| sq <| rg <| ?_
  by_cases hid : 0 ≤ id ∧ id ≤ 63
  · have hp : puz id = .iface 62 (.int .i64 id) := by unfold puz; rw [if_pos hid]
    have hb := pow_le h5 h6
    have hh := pzHash_bd id nonce
    refine vl (taY ⟨_, Try.underlying62, rfl⟩ hp) ?_
    refine vl (ext rfl rfl) <| vl (ext rfl rfl) <| nl <| thn <| ?_
    refine cdt rfl ?_
    refine sq <| ?_
    refine rgq (fun w => K _ w _ _) Ty.mixed (by kernel_rfl) (hK.drawn _) ?_
    refine qv (fun w hK => mv) <| ?_; refine qv (fun w hK => (mvv (v := .int _ _) rfl)) <| ?_
    refine qci (fun _ _ => by kernel_rfl) hp rfl (fun w hK => earnedHash_c (C := fun w => K _ w _ _) hK hid.1 hid.2 h3 h4) ?_
    refine qv (fun w hK => (mvv (v := .int _ _) rfl)) <| ?_; refine qv (fun w hK => (shl rfl rfl h5 (by first | omega | (simp only; omega)) (by first | omega | (simp only; omega)) (by first | omega | (simp only; omega)))) <| ?_; refine qv (fun w hK => (rm rfl rfl (by first | omega | (simp only; omega)) (by first | omega | (simp only; omega)))) <| ?_; refine qv (fun w hK => (eq rfl rfl)) <| ?_; refine qv (fun w hK => (asv (v := .bool _) rfl)) <| ?_; refine qn <| ?_
    intro w hK
    refine thn <| rt <| bkr <| thr <| p1r (a := .bool _) rfl <| ?_
    exact ⟨by unfold pzOk; simp [hid, h3, h4, h5, h6, Int.one_mul], hK⟩
  · have hp : puz id = .iface 66 (.agg #[]) := by unfold puz; rw [if_neg hid]
    refine vl (taN ⟨_, Try.underlying62, rfl⟩ Ty.i62 hp rfl) ?_
    refine vl (ext rfl rfl) <| vl (ext rfl rfl) <| nl <| thn <| ?_
    refine cdf rfl ?_
    refine sk <| bkn <| thn <| sq <| rg <| ?_
    refine vl (asv (v := .bool _) rfl) <| nl <| thn <| rt <| p1r (a := .bool _) rfl <| ?_
    exact ⟨by unfold pzOk; simp [hid], hK⟩

theorem implPuzzleOk_c (hK : K e w G L) {id nonce bits : Int} : Ret Try.prog 14 #[.int .i64 id, .int .i64 nonce, .int .i64 bits] w (fun r w' => r = .bool (decide (pzOk id nonce bits)) ∧ K e w' G L) := by
  refine enter1 (args := [.int .i64 id, .int .i64 nonce, .int .i64 bits]) Try.func14 rfl rfl rfl rfl ?_
  refine sq <| rg <| ?_
  refine vl (asv (v := .bool _) rfl) <| nl <| thn <| sq <| rg <| vl (mvv (v := .int _ _) rfl) <| ?_
  refine cl Try.call37 rfl (inRange_c (C := fun w => K _ w _ _) hK) ?_
  rintro _ w ⟨rfl, hK⟩
  refine vl (mvv (v := .bool _) rfl) <| ?_
  refine splP (t := 9) rfl (fun h => ?_) (fun h => ?_)
  · refine gy rfl <| vl (mvv (v := .int _ _) rfl) <| gy rfl <| ?_
    refine cl Try.call37 rfl (inRange_c (C := fun w => K _ w _ _) hK) ?_
    rintro _ w ⟨rfl, hK⟩
    refine vl (pk rfl) <| vl (mvv (v := .bool _) rfl) <| ?_
    refine splP (t := 13) rfl (fun h' => ?_) (fun h' => ?_)
    · refine gy rfl <| vl (mvv (v := .int _ _) rfl) <| gy rfl <| ?_
      refine cl Try.call39 rfl (puzzleOf_c (C := fun w => K _ w _ _) hK) ?_
      rintro _ w ⟨rfl, hK⟩
      refine gy rfl <| vl (mvv (v := .int _ _) rfl) <| gy rfl <| vl (mvv (v := .int _ _) rfl) <| gy rfl <| ?_
      refine cl Try.call38 rfl (solves_c hK h.1 h.2 h'.1 h'.2) ?_
      rintro _ w ⟨rfl, hK⟩
      refine vl (pk rfl) <| vl (asv (v := .bool _) rfl) <| nl <| thn <| rt <| p1r (a := .bool _) rfl <| ?_
      exact ⟨rfl, hK⟩
    · refine gn rfl <| gn rfl <| gn rfl <| gn rfl <| gn rfl <| vl (pk rfl) <| vl (asv (v := .bool _) rfl) <| nl <| thn <| rt <| p1r (a := .bool _) rfl <| ?_
      exact ⟨by unfold pzOk; simp [h, h'], hK⟩
  · refine gn rfl <| gn rfl <| vl (pk rfl) <| vl (mvv (v := .bool _) rfl) <| gn rfl <| gn rfl <| gn rfl <| gn rfl <| gn rfl <| vl (pk rfl) <| vl (asv (v := .bool _) rfl) <| nl <| thn <| rt <| p1r (a := .bool _) rfl <| ?_
    exact ⟨by unfold pzOk; simp [h], hK⟩

theorem specPuzzleSolve_c (hK : C w) {id bits : Int} : Ret Try.prog 13 #[.int .i64 id, .int .i64 bits] w (fun r w' => (∃ s, r = .int .i64 s ∧ PzSol id bits s) ∧ C w') := by
  refine enter1 (args := [.int .i64 id, .int .i64 bits]) Try.func13 rfl rfl rfl rfl ?_
  refine sq <| rg <| ?_
  refine vl (asv (v := .int _ _) rfl) <| nl <| thn <| sq <| sq <| rg <| vl (mvv (v := .int _ _) rfl) <| ?_
  refine cl Try.call34 rfl (l1Point_c (C := C) hK) ?_
  rintro _ w ⟨rfl, hK⟩
  refine vl (nt rfl) <| vl (mvv (v := .bool _) rfl) <| ?_
  refine splP (t := 9) rfl (fun h => ?_) (fun h => ?_)
  · refine gn rfl <| gn rfl <| gn rfl <| vl (pk rfl) <| nl <| thn <| ?_
    refine cdt rfl ?_
    refine sq <| rg <| ?_
    refine vl (asv (v := .int _ _) rfl) <| nl <| thn <| rt <| thr <| p1r (a := .int _ _) rfl <| ?_
    exact ⟨⟨_, rfl, .inl ⟨rfl, fun j _ _ hj => h hj.1⟩⟩, hK⟩
  · refine gy rfl <| vl (mvv (v := .int _ _) rfl) <| gy rfl <| ?_
    refine cl Try.call35 rfl (l6In_c (C := C) hK) ?_
    rintro _ w ⟨rfl, hK⟩
    refine gy rfl <| vl (nt rfl) <| vl (pk rfl) <| nl <| thn <| ?_
    refine cdP rfl (fun h' => ?_) (fun h' => ?_)
    · refine sq <| rg <| ?_
      refine vl (asv (v := .int _ _) rfl) <| nl <| thn <| rt <| thr <| p1r (a := .int _ _) rfl <| ?_
      exact ⟨⟨_, rfl, .inl ⟨rfl, fun j _ _ hj => h' hj.2.2.1⟩⟩, hK⟩
    · have hid : 0 ≤ id ∧ id ≤ 63 := by omega
      obtain ⟨b, rfl⟩ := Int.eq_ofNat_of_zero_le (show 0 ≤ bits by omega)
      refine sk <| thn <| sq <| sq <| rg <| ?_
      refine vl (asv (v := .int _ _) rfl) <| nl <| thn <| bk <| ?_
      refine lp (σ := Nat) (fun i => [(0, .int .i64 id), (1, .int .i64 (b : Int)), (5, .int .i64 (i : Int))]) (fun i w => i ≤ 256 ∧ (∀ j : Int, 0 ≤ j → j < i → ¬ pzOk id j b) ∧ C w) (fun i => 256 - i) 0 ⟨rfl, rfl, rfl, trivial⟩ ⟨by omega, fun j h0 h1 => by omega, hK⟩ ?_
      rintro i g w ⟨hi, hn, hK⟩
      refine sq <| sq <| rg <| ?_
      refine vl (mvv (v := .int _ _) rfl) <| vl (le rfl rfl) <| nl <| thn <| ?_
      refine cdP rfl (fun hc => ?_) (fun hc => ?_)
      · refine sk <| thn <| sq <| bk <| sq <| rg <| ?_
        refine vl (mvv (v := .int _ _) rfl) <| vl (mvv (v := .int _ _) rfl) <| vl (mvv (v := .int _ _) rfl) <| ?_
        refine cl Try.call36 rfl (specOk32_c (C := C) hK hid.1 hid.2 (by first | omega | (simp only; omega)) (by first | omega | (simp only; omega)) (by first | omega | (simp only; omega))) ?_
        rintro _ w ⟨rfl, hK⟩
        refine nl <| thn <| ?_
        have hq : pzHash id i % 2 ^ b = 0 ↔ pzOk id i b := by unfold pzOk; simp; omega
        refine cdP rfl (fun hx => ?_) (fun hx => ?_)
        · refine sq <| rg <| ?_
          refine vl (mvv (v := .int _ _) rfl) <| vl (asv (v := .int _ _) rfl) <| nl <| thn <| rt <| bkr <| thr <| thr <| bkr <| thr <| p1r (a := .int _ _) rfl <| ?_
          exact ⟨⟨_, rfl, .inr ⟨by omega, hq.1 hx, hn⟩⟩, hK⟩
        · refine sk <| bkn <| thn <| rg <| ?_
          refine vl (mvv (v := .int _ _) rfl) <| vl (ad rfl rfl (by first | omega | (simp only; omega)) (by first | omega | (simp only; omega))) <| vl (asv (v := .int _ _) rfl) <| nl <| thn <| ?_
          exact ⟨i + 1, ⟨rfl, rfl, rfl, trivial⟩, ⟨by omega, fun j h0 h1 hj => by
            rcases Int.lt_or_eq_of_le (Int.lt_add_one_iff.1 (show j < (i : Int) + 1 by omega)) with h | rfl
            · exact hn j h0 h hj
            · exact hx (hq.2 hj), hK⟩, by omega⟩
      · refine ex <| the <| the <| bkh <| thn <| sq <| rg <| ?_
        refine vl (asv (v := .int _ _) rfl) <| nl <| thn <| rt <| p1r (a := .int _ _) rfl <| ?_
        exact ⟨⟨_, rfl, .inl ⟨rfl, fun j h0 h1 => hn j h0 (by omega)⟩⟩, hK⟩

theorem implPuzzleSolve_c (hK : K e w G L) {id bits : Int} : Ret Try.prog 12 #[.int .i64 id, .int .i64 bits] w (fun r w' => (∃ s, r = .int .i64 s ∧ PzSol id bits s) ∧ K e w' G L) := by
  refine enter1 (args := [.int .i64 id, .int .i64 bits]) Try.func12 rfl rfl rfl rfl ?_
  refine sq <| rg <| ?_
  refine vl (asv (v := .int _ _) rfl) <| nl <| thn <| sq <| sq <| rg <| vl (mvv (v := .int _ _) rfl) <| nl <| thn <| bk <| ?_
  refine lp (σ := Nat) (fun i => [(0, .int .i64 id), (1, .int .i64 bits), (6, .int .i64 (i : Int))]) (fun i w => i ≤ 256 ∧ (∀ j : Int, 0 ≤ j → j < i → ¬ pzOk id j bits) ∧ K e w G L) (fun i => 256 - i) 0 ⟨rfl, rfl, rfl, trivial⟩ ⟨by omega, fun j h0 h1 => by omega, hK⟩ ?_
  rintro i g w ⟨hi, hn, hK⟩
  refine sq <| rg <| ?_
  refine vl (lt rfl rfl) <| nl <| thn <| sq <| ?_
  refine cdP rfl (fun hc => ?_) (fun hc => ?_)
  · refine sk <| thn <| sq <| bk <| sq <| rg <| ?_
    refine vl (mvv (v := .int _ _) rfl) <| vl (asv (v := .int _ _) rfl) <| nl <| thn <| sq <| rg <| vl (mvv (v := .int _ _) rfl) <| vl (mvv (v := .int _ _) rfl) <| vl (mvv (v := .int _ _) rfl) <| ?_
    refine cl Try.call14 rfl (implPuzzleOk_c hK) ?_
    rintro _ w ⟨rfl, hK⟩
    refine nl <| thn <| ?_
    refine cdP rfl (fun hx => ?_) (fun hx => ?_)
    · refine sq <| rg <| ?_
      refine vl (mvv (v := .int _ _) rfl) <| vl (asv (v := .int _ _) rfl) <| nl <| thn <| rt <| bkr <| thr <| thr <| bkr <| thr <| p1r (a := .int _ _) rfl <| ?_
      exact ⟨⟨_, rfl, .inr ⟨by omega, hx, hn⟩⟩, hK⟩
    · refine sk <| bkn <| thn <| rg <| ?_
      refine vl (ad rfl rfl (by first | omega | (simp only; omega)) (by first | omega | (simp only; omega))) <| vl (mvv (v := .int _ _) rfl) <| nl <| thn <| ?_
      exact ⟨i + 1, ⟨rfl, rfl, rfl, trivial⟩, ⟨by omega, fun j h0 h1 hj => by
        rcases Int.lt_or_eq_of_le (Int.lt_add_one_iff.1 (show j < (i : Int) + 1 by omega)) with h | rfl
        · exact hn j h0 h hj
        · exact hx hj, hK⟩, by omega⟩
  · refine ex <| the <| the <| bkh <| thn <| sq <| rg <| ?_
    refine vl (asv (v := .int _ _) rfl) <| nl <| thn <| rt <| p1r (a := .int _ _) rfl <| ?_
    exact ⟨⟨_, rfl, .inl ⟨rfl, fun j h0 h1 => hn j h0 (by omega)⟩⟩, hK⟩
end
end Go.Proofs.Ytnjijnlckbaggaa
