/- Contracts of the specification's events of a world: the items. Conditions: those that each row states. -/
import Derived.Test.YtmgggljicpmndaaGreatDoorWd2
namespace Go.Proofs.YtmgggljicpmndaaGreatDoor
open Go Go.Ro Tryz
section
variable {e w : World} {G : View} {L A : Own} {v u : Value} {xs ys : List Int} {ls ms : List Ls} {rs qs : List Rn} {zs ts : List It} {W W' : Wv} {wd wd' : Wd} {a b c k kd id other : Int} {i j bk o : Nat}
set_option maxHeartbeats 1000000 in
theorem l51Item_c (hK : K e w G L) (hW : WdS G lc W wd rs) (hok : LsOk wd.leases) (hzl : wd.items.length ≤ 100000) (hsl : wd.since.length ≤ 100000) : Ret prog 57 #[.agg (wc W).toArray, .agg (ec kd a b c).toArray] w (fun r w' => ∃ G' W', VLe G G' ∧ r = .agg (wc W').toArray ∧ WdS G' lc W' (itW wd kd a b c) rs ∧ K e w' G' L) := by
 have hi3 := hW.items
 have hlt : 0 < wd.leases.length := by have := hok.1; omega
 refine enterG1 (args := [.agg (wc W).toArray, .agg (ec kd a b c).toArray]) func57 rfl rfl rfl rfl ?_
 refine sq <| rg <| ?_
 refine bx hK rfl rfl ?_
 intro b2 w hK
 refine bx hK rfl rfl ?_
 intro b3 w hK
 refine al hK Ty.i31 rfl ?_
 intro b4 w hK
 refine nl <| thn <| sq <| sq <| ?_
 refine ct (σ := Bool) (fun s => [(2, .pointer (some ⟨b2, 0, none⟩)), (3, .pointer (some ⟨b3, 0, none⟩)), (4, .pointer (some ⟨b4, 0, none⟩)), (36, .bool s)]) (fun s w => (s = true ↔ ¬ (Pt b ∧ own wd b = a ∧ 0 ≤ a ∧ (kd = 11 → 0 ≤ c ∧ c ≤ 99))) ∧ K e w G ((b4, row [.int .i64 0, .slice none 0 0, .slice none 0 0, .slice none 0 0, .int .i64 0, .slice none 0 0, .slice none 0 0] 31) :: (b3, row (ec kd a b c) 55) :: (b2, row (wc W) 31) :: L)) ?_ ?_
 ·skip
  refine rgq (fun w => K _ w _ _) Ty.mixed kr (hK.drawn _) ?_
  refine qv (fun w hK => (fa underlying55 rfl Ty.z3 rfl)) <| qldO Ty.o3 1 rfl rfl rfl <| ?_
  refine qcl call99 rfl (fun w hK => l1Point_c (C := fun w => K _ w _ _) hK) ?_
  refine qv (fun w hK => (nt rfl)) <| qv (fun w hK => (mB rfl)) <| ?_
  refine qsplP (t := 12) rfl (fun q1 => ?_) fun q1 => ?_
  ·refine qgn rfl <| qgn rfl <| qgn rfl <| qgn rfl <| qgn rfl <| qgn rfl <| qgn rfl <| qv (fun w hK => (pk rfl)) <| qv (fun w hK => (mB rfl)) <| qgn rfl <| qgn rfl <| qgn rfl <| qv (fun w hK => (pk rfl)) <| qv (fun w hK => (mB rfl)) <| qgn rfl <| qgn rfl <| qgn rfl <| qgn rfl <| qgu rfl <| qgu rfl <| qgu rfl <| qgu rfl <| qgn rfl <| qv (fun w hK => (pk rfl)) <| qn <| ?_
   intro w hK
   refine ctn <| ?_
   exact ⟨true, ⟨rfl, rfl, rfl, rfl, trivial⟩, by simp only [true_iff]; exact fun h => q1 h.1, hK⟩
  ·have q1' : Pt b := Decidable.not_not.1 q1
   refine qgy rfl <| qlsO Ty.a31 Ty.s31 2 rfl rfl rfl <| qgy rfl <| qv (fun w hK => (fa underlying55 rfl Ty.z3 rfl)) <| qgy rfl <| qldO Ty.o3 1 rfl rfl rfl <| qgy rfl <| ?_
   refine qcl call100 rfl (fun w hK => l51Owner_c hK hW hlt) ?_
   refine qgy rfl <| qv (fun w hK => (fa underlying55 rfl Ty.z3 rfl)) <| qgy rfl <| qldO Ty.o3 1 rfl rfl rfl <| qgy rfl <| qv (fun w hK => (ne rfl rfl)) <| qv (fun w hK => (pk rfl)) <| qv (fun w hK => (mB rfl)) <| ?_
   refine qsplP (t := 21) rfl (fun q2 => ?_) fun q2 => ?_
   ·refine qgn rfl <| qgn rfl <| qgn rfl <| qv (fun w hK => (pk rfl)) <| qv (fun w hK => (mB rfl)) <| qgn rfl <| qgn rfl <| qgn rfl <| qgn rfl <| qgu rfl <| qgu rfl <| qgu rfl <| qgu rfl <| qgn rfl <| qv (fun w hK => (pk rfl)) <| qn <| ?_
    intro w hK
    refine ctn <| ?_
    exact ⟨true, ⟨rfl, rfl, rfl, rfl, trivial⟩, by simp only [true_iff]; exact fun h => q2 h.2.1, hK⟩
   ·have q2' : own wd b = a := Decidable.not_not.1 q2
    refine qgy rfl <| qv (fun w hK => (fa underlying55 rfl Ty.z3 rfl)) <| qgy rfl <| qldO Ty.o3 1 rfl rfl rfl <| qgy rfl <| qv (fun w hK => (lt rfl rfl)) <| qv (fun w hK => (pk rfl)) <| qv (fun w hK => (mB rfl)) <| ?_
    refine qsplP (t := 26) rfl (fun q3 => ?_) fun q3 => ?_
    ·refine qgn rfl <| qgn rfl <| qgn rfl <| qgn rfl <| qgu rfl <| qgu rfl <| qgu rfl <| qgu rfl <| qgn rfl <| qv (fun w hK => (pk rfl)) <| qn <| ?_
     intro w hK
     refine ctn <| ?_
     exact ⟨true, ⟨rfl, rfl, rfl, rfl, trivial⟩, by simp only [true_iff]; exact fun h => by have := h.2.2.1; omega, hK⟩
    ·refine qgy rfl <| qv (fun w hK => (fa underlying55 rfl Ty.z3 rfl)) <| qgy rfl <| qldO Ty.o3 1 rfl rfl rfl <| qgy rfl <| qv (fun w hK => (eq rfl rfl)) <| qgy rfl <| qv (fun w hK => (mB rfl)) <| ?_
     refine qsplP (t := 30) rfl (fun q4 => ?_) fun q4 => ?_
     ·refine qgy rfl <| qv (fun w hK => (fa underlying55 rfl Ty.z3 rfl)) <| qgy rfl <| qldO Ty.o3 1 rfl rfl rfl <| qgy rfl <| ?_
      refine qcl call104 rfl (fun w hK => l6In_c (C := fun w => K _ w _ _) hK) ?_
      refine qgy rfl <| qv (fun w hK => (nt rfl)) <| qgy rfl <| qv (fun w hK => (pk rfl)) <| qv (fun w hK => (pk rfl)) <| qn <| ?_
      intro w hK
      refine ctn <| ?_
      exact ⟨_, ⟨rfl, rfl, rfl, rfl, trivial⟩, by rw [decide_eq_true_eq]; exact ⟨fun h g => h (g.2.2.2 q4), fun h g => h ⟨q1', q2', by omega, fun _ => g⟩⟩, hK⟩
     ·refine qgn rfl <| qgn rfl <| qgn rfl <| qgn rfl <| qgy rfl <| qv (fun w hK => (pk rfl)) <| qv (fun w hK => (pk rfl)) <| qn <| ?_
      intro w hK
      refine ctn <| ?_
      exact ⟨false, ⟨rfl, rfl, rfl, rfl, trivial⟩, by simp only [Bool.false_eq_true, false_iff]; exact fun h => h ⟨q1', q2', by omega, fun g => absurd g q4⟩, hK⟩
 ·rintro s g w ⟨hs, hK⟩
  refine thn <| ?_
  refine cdB rfl (fun g1 => ?_) fun g1 => ?_
  ·have hw : itW wd kd a b c = wd := if_neg (hs.1 g1)
   refine sq <| rg <| ?_
   refine vl (lsO hK Ty.a31 Ty.s31 2 rfl rfl rfl) <| ?_
   refine soS hK Ty.i31 0 rfl rfl rfl rfl (WdS.one hW) rfl ?_
   intro w hK
   refine nl <| thn <| rt <| thr <| pg1r (rvS hK Ty.a31 Ty.s31 0 rfl rfl rfl) <| ?_
   rw [hw]
   exact ⟨G, _, VLe.refl _, rfl, hW, hK.drop1.drop1.drop1⟩
  ·have hcond : Pt b ∧ own wd b = a ∧ 0 ≤ a ∧ (kd = 11 → 0 ≤ c ∧ c ≤ 99) := Classical.not_not.1 fun h => by rw [hs.2 h] at g1; cases g1
   have hw : itW wd kd a b c = { wd with items := itf b c (decide (kd = 12)) wd.items, since := if kd = 12 then wd.since.filter (fun x => decide (x ≠ b)) else wd.since } := if_pos hcond
   refine sk <| thn <| sq <| rg <| ?_
   refine bs0 hK underlying27 Ty.i104 ?_
   intro b38 w hK
   refine vl asg <| nl <| thn <| sq <| rg <| vl (fa underlying55 rfl Ty.z3 rfl) <| vl (ldO hK Ty.o3 2 rfl rfl rfl) <| vl (eq rfl rfl) <| vl (aB rfl) <| nl <| thn <| sq <| sq <| rg <| vl (aI rfl) <| nl <| thn <| ?_
   refine bk <| ?_
   replace hK := K.mid (A := [(b38, _)]) (B := [_, _, _]) hK
   refine lp (σ := Nat × Value × List It × Bool × Own) (fun s => [(2, .pointer (some ⟨b2, 0, none⟩)), (3, .pointer (some ⟨b3, 0, none⟩)), (4, .pointer (some ⟨b4, 0, none⟩)), (5, s.2.1), (6, .bool s.2.2.2.1), (7, .int .i64 (s.1 : Int))]) (fun s w => s.1 ≤ wd.items.length ∧ s.2.2.1.length ≤ 2 * s.1 ∧ s.2.2.1 ++ itf b c s.2.2.2.1 (wd.items.drop s.1) = itf b c (decide (kd = 12)) wd.items ∧ OS 2 104 s.2.1 s.2.2.1.length (s.2.2.1.flatMap ic) s.2.2.2.2 ∧ K e w G ((b4, row [.int .i64 0, .slice none 0 0, .slice none 0 0, .slice none 0 0, .int .i64 0, .slice none 0 0, .slice none 0 0] 31) :: (b3, row (ec kd a b c) 55) :: (b2, row (wc W) 31) :: (s.2.2.2.2 ++ L))) (fun s => wd.items.length - s.1) (0, .slice (some ⟨b38, 0, none⟩) 0 0, [], decide (kd = 12), [(b38, row [] 104)]) ⟨rfl, rfl, rfl, rfl, rfl, rfl, trivial⟩ ⟨Nat.zero_le _, Nat.le_refl _, rfl, OS.none, hK⟩ ?_
   rintro ⟨i, u, zs, p, A⟩ g w ⟨hi, hz, hit, ho, hK⟩
   simp only at hi hz hit ho hK
   refine sq <| sq <| rg <| ?_
   refine vl (mI rfl) <| vl (fa underlying31 rfl Ty.z27 rfl) <| vl (ldO hK Ty.o27 2 rfl rfl rfl) <| vl (ln underlying27 rfl hi3.len) <| vl (lt rfl rfl) <| nl <| thn <| ?_
   refine cdP rfl (fun hc => ?_) fun hc => ?_
   ·have hi' : i < wd.items.length := by simp only at hc; omega
    rw [itf_at hi'] at hit
    refine sk <| thn <| sq <| bk <| sq <| sq <| ?_
    refine ct (σ := Bool) (fun s => [(2, .pointer (some ⟨b2, 0, none⟩)), (3, .pointer (some ⟨b3, 0, none⟩)), (4, .pointer (some ⟨b4, 0, none⟩)), (5, u), (6, .bool p), (7, .int .i64 (i : Int)), (61, .bool s)]) (fun s w => (s = true ↔ (p = false ∧ b ≤ wd.items[i].1)) ∧ K e w G ((b4, row [.int .i64 0, .slice none 0 0, .slice none 0 0, .slice none 0 0, .int .i64 0, .slice none 0 0, .slice none 0 0] 31) :: (b3, row (ec kd a b c) 55) :: (b2, row (wc W) 31) :: (A ++ L))) ?_ ?_
    ·skip
     refine rgq (fun w => K _ w _ _) Ty.mixed kr (hK.drawn _) ?_
     refine qv (fun w hK => (mB rfl)) <| qv (fun w hK => (ntB rfl)) <| qv (fun w hK => (mB rfl)) <| ?_
     refine qspl (t := 51) rfl (fun g2 => ?_) fun g2 => ?_
     ·have g2' : p = false := Eq.mp (Bool.not_eq_true' _) g2
      refine qgy rfl <| qv (fun w hK => (fa underlying31 rfl Ty.z27 rfl)) <| qgy rfl <| qldO Ty.o27 2 rfl rfl rfl <| qgy rfl <| qv (fun w hK => (mI rfl)) <| qgy rfl <| qv (fun w hK => (ixn underlying27 Ty.s104 rfl hi3.1 rfl om)) <| qgy rfl <| qv (fun w hK => (fe underlying104 rfl Ty.z3 rfl hi3.1 om)) <| qgy rfl <| qldV Ty.o3 rfl (hi3.cell om 0 rfl) <| qgy rfl <| qv (fun w hK => (fa underlying55 rfl Ty.z3 rfl)) <| qgy rfl <| qldO Ty.o3 1 rfl rfl rfl <| qgy rfl <| qv (fun w hK => (ge rfl rfl)) <| qv (fun w hK => (pk rfl)) <| qn <| ?_
      intro w hK
      refine ctn <| ?_
      exact ⟨_, ⟨rfl, rfl, rfl, rfl, rfl, rfl, rfl, trivial⟩, by rw [decide_eq_true_eq]; exact ⟨fun h => ⟨g2', h⟩, fun h => h.2⟩, hK⟩
     ·have g2' : p = true := Eq.mp (Bool.not_eq_false' _) g2
      refine qgn rfl <| qgn rfl <| qgn rfl <| qgn rfl <| qgn rfl <| qgn rfl <| qgn rfl <| qgn rfl <| qgn rfl <| qv (fun w hK => (pk rfl)) <| qn <| ?_
      intro w hK
      refine ctn <| ?_
      exact ⟨false, ⟨rfl, rfl, rfl, rfl, rfl, rfl, rfl, trivial⟩, by simp [g2'], hK⟩
    ·rintro s2 g w ⟨hs2, hK⟩
     refine thn <| ?_
     refine ct (σ := Value × List It × Bool × Own) (fun s => [(2, .pointer (some ⟨b2, 0, none⟩)), (3, .pointer (some ⟨b3, 0, none⟩)), (4, .pointer (some ⟨b4, 0, none⟩)), (5, s.1), (6, .bool s.2.2.1), (7, .int .i64 (i : Int))]) (fun s w => s.2.1 = zs ++ (if p = false ∧ b ≤ wd.items[i].1 then [(b, c)] else []) ∧ s.2.2.1 = (p || decide (b ≤ wd.items[i].1)) ∧ OS 2 104 s.1 s.2.1.length (s.2.1.flatMap ic) s.2.2.2 ∧ K e w G ((b4, row [.int .i64 0, .slice none 0 0, .slice none 0 0, .slice none 0 0, .int .i64 0, .slice none 0 0, .slice none 0 0] 31) :: (b3, row (ec kd a b c) 55) :: (b2, row (wc W) 31) :: (s.2.2.2 ++ L))) ?_ ?_
     ·skip
      refine cdB rfl (fun g3 => ?_) fun g3 => ?_
      ·have g3' := hs2.1 g3
       refine sq <| rg <| ?_
       refine vl mv <| vl (fa underlying55 rfl Ty.z3 rfl) <| vl (ldO hK Ty.o3 1 rfl rfl rfl) <| vl (fa underlying55 rfl Ty.z3 rfl) <| vl (ldO hK Ty.o3 1 rfl rfl rfl) <| vl (bd [(0, _), (1, _)] Ty.p104 Ty.i104 rfl ⟨⟨rfl, rfl⟩, ⟨rfl, rfl⟩, trivial⟩ rfl) <| ?_
       refine bsS1 hK underlying27 Ty.i104 rfl rfl rfl rfl rfl rfl ?_
       intro b68 w hK
       refine apE1 (c := ic) (A := A) (xs := zs) (k := (b, c)) (fun _ => rfl) rfl (K.midc (A := [_, _, _]) hK) underlying27 Ty.i104 rfl rfl rfl ho rfl om fun v2 A2 w ho2 hK => ?_
       refine vl asg <| nl <| thn <| rg <| vl (aB rfl) <| nl <| ctn <| ?_
       exact ⟨(v2, zs ++ [(b, c)], true, A2), ⟨rfl, rfl, rfl, rfl, rfl, rfl, trivial⟩, by simp [g3'], by simp [g3'.2], ho2, K.mid (A := A2) (B := [_, _, _]) hK⟩
      ·have g3' : ¬ (p = false ∧ b ≤ wd.items[i].1) := fun h => by rw [hs2.2 h] at g3; cases g3
       refine sk <| ctn <| ?_
       exact ⟨(u, zs, p, A), ⟨rfl, rfl, rfl, rfl, rfl, rfl, trivial⟩, by rw [if_neg g3', List.append_nil], (by cases p with
        | true => rfl
        | false => exact (decide_eq_false fun h => g3' ⟨rfl, h⟩).symm), ho, hK⟩
     ·rintro ⟨v3, z3, p3, A3⟩ g w ⟨hz3, hp3, ho3, hK⟩
      simp only at hz3 hp3 ho3 hK
      have hzl3 : z3.length ≤ 2 * i + 1 := by rw [hz3, List.length_append]; split <;> simp <;> omega
      rw [← List.append_assoc, ← hz3, ← hp3] at hit
      refine thn <| sq <| ?_
      refine rgq (fun w => K _ w _ _) Ty.mixed kr (hK.drawn _) ?_
      refine qv (fun w hK => (fa underlying31 rfl Ty.z27 rfl)) <| qldO Ty.o27 2 rfl rfl rfl <| qv (fun w hK => (mI rfl)) <| qv (fun w hK => (ixn underlying27 Ty.s104 rfl hi3.1 rfl om)) <| qv (fun w hK => (fe underlying104 rfl Ty.z3 rfl hi3.1 om)) <| qldV Ty.o3 rfl (hi3.cell om 0 rfl) <| qv (fun w hK => (fa underlying55 rfl Ty.z3 rfl)) <| qldO Ty.o3 1 rfl rfl rfl <| qv (fun w hK => (ne rfl rfl)) <| qn <| ?_
      intro w hK
      refine thn <| ?_
      refine cdP rfl (fun g4 => ?_) fun g4 => ?_
      ·rw [if_pos g4] at hit
       refine rg <| ?_
       refine vl mv <| vl (fa underlying31 rfl Ty.z27 rfl) <| vl (ldO hK Ty.o27 2 rfl rfl rfl) <| vl (mI rfl) <| vl (ixn underlying27 Ty.s104 rfl hi3.1 rfl om) <| vl (lsF hK Ty.a104 Ty.s104 rfl hi3 om) <| ?_
       refine bsS1 hK underlying27 Ty.i104 rfl rfl rfl rfl rfl rfl ?_
       intro b85 w hK
       refine apE1 (c := ic) (A := A3) (xs := z3) (k := wd.items[i]) (fun _ => rfl) rfl (K.midc (A := [_, _, _]) hK) underlying27 Ty.i104 rfl rfl rfl ho3 rfl om fun v2 A2 w ho2 hK => ?_
       refine vl asg <| nl <| bkn <| thn <| rg <| vl (mI rfl) <| vl (ad rfl rfl) <| vl (aI rfl) <| nl <| thn <| ?_
       exact ⟨(i + 1, v2, z3 ++ [wd.items[i]], p3, A2), ⟨rfl, rfl, rfl, rfl, rfl, rfl, trivial⟩, ⟨hi', by simp only [List.length_append, List.length_singleton]; omega, by rw [← hit]; simp only [List.append_assoc], ho2, K.mid (A := A2) (B := [_, _, _]) hK⟩, by simp only; omega⟩
      ·rw [if_neg g4, List.nil_append] at hit
       refine sk <| bkn <| thn <| rg <| ?_
       refine vl (mI rfl) <| vl (ad rfl rfl) <| vl (aI rfl) <| nl <| thn <| ?_
       exact ⟨(i + 1, v3, z3, p3, A3), ⟨rfl, rfl, rfl, rfl, rfl, rfl, trivial⟩, ⟨hi', by simp only; omega, hit, ho3, hK⟩, by simp only; omega⟩
   ·have hi' : i = wd.items.length := by simp only at hc; omega
    subst hi'
    rw [List.drop_length] at hit
    refine ex <| the <| the <| bkh <| thn <| sq <| sq <| rg <| ?_
    refine vl (mB rfl) <| vl (ntB rfl) <| nl <| thn <| ?_
    have hrl : (itf b c (decide (kd = 12)) wd.items).length ≤ 2 * wd.items.length + 1 := by rw [← hit, List.length_append]; unfold itf; split <;> simp <;> omega
    refine ct (σ := Value × Own) (fun s => [(2, .pointer (some ⟨b2, 0, none⟩)), (3, .pointer (some ⟨b3, 0, none⟩)), (4, .pointer (some ⟨b4, 0, none⟩)), (5, s.1)]) (fun s w => OS 2 104 s.1 (itf b c (decide (kd = 12)) wd.items).length ((itf b c (decide (kd = 12)) wd.items).flatMap ic) s.2 ∧ K e w G ((b4, row [.int .i64 0, .slice none 0 0, .slice none 0 0, .slice none 0 0, .int .i64 0, .slice none 0 0, .slice none 0 0] 31) :: (b3, row (ec kd a b c) 55) :: (b2, row (wc W) 31) :: (s.2 ++ L))) ?_ ?_
    ·refine cdB rfl (fun g5 => ?_) fun g5 => ?_
     ·have g5' : p = false := Eq.mp (Bool.not_eq_true' _) g5
      subst g5'
      have hit' : zs ++ [(b, c)] = itf b c (decide (kd = 12)) wd.items := hit
      refine rg <| ?_
      refine vl mv <| vl (fa underlying55 rfl Ty.z3 rfl) <| vl (ldO hK Ty.o3 1 rfl rfl rfl) <| vl (fa underlying55 rfl Ty.z3 rfl) <| vl (ldO hK Ty.o3 1 rfl rfl rfl) <| vl (bd [(0, _), (1, _)] Ty.p104 Ty.i104 rfl ⟨⟨rfl, rfl⟩, ⟨rfl, rfl⟩, trivial⟩ rfl) <| ?_
      refine bsS1 hK underlying27 Ty.i104 rfl rfl rfl rfl rfl rfl ?_
      intro b95 w hK
      refine apE1 (c := ic) (A := A) (xs := zs) (k := (b, c)) (fun _ => rfl) rfl (K.midc (A := [_, _, _]) hK) underlying27 Ty.i104 rfl rfl rfl ho rfl om fun v2 A2 w ho2 hK => ?_
      refine vl asg <| nl <| ctn <| ?_
      exact ⟨(v2, A2), ⟨rfl, rfl, rfl, rfl, trivial⟩, by rw [← hit']; exact ho2, K.mid (A := A2) (B := [_, _, _]) hK⟩
     ·have g5' : p = true := Eq.mp (Bool.not_eq_false' _) g5
      subst g5'
      have hit' : zs = itf b c (decide (kd = 12)) wd.items := (List.append_nil zs).symm.trans hit
      refine sk <| ctn <| ?_
      exact ⟨(u, A), ⟨rfl, rfl, rfl, rfl, trivial⟩, by rw [← hit']; exact ho, hK⟩
    ·rintro ⟨v3, A3⟩ g w ⟨ho3, hK⟩
     simp only at ho3 hK
     obtain ⟨G1, hG1, hv3, hK⟩ := K.pubE (c := ic) (fun _ => rfl) (K.mid (A := [_, _, _]) (B := A3) hK) ho3
     refine thn <| sq <| rg <| ?_
     refine vl mv <| vl (fa underlying31 rfl Ty.z27 rfl) <| ?_
     refine so hK Ty.i27 rfl 2 rfl rfl rfl (SlW.one hv3.1) rfl ?_
     intro w hK
     refine nl <| thn <| sq <| sq <| rg <| vl (fa underlying55 rfl Ty.z3 rfl) <| vl (ldO hK Ty.o3 1 rfl rfl rfl) <| vl (eq rfl rfl) <| nl <| thn <| ?_
     refine cdP rfl (fun g6 => ?_) fun g6 => ?_
     ·rw [if_pos g6] at hw
      refine rg <| ?_
      refine vl (fa underlying31 rfl Ty.z22 rfl) <| vl (ldO hK Ty.o22 2 rfl rfl rfl) <| vl (fa underlying55 rfl Ty.z3 rfl) <| vl (ldO hK Ty.o3 1 rfl rfl rfl) <| ?_
      refine cl call105 rfl (l51Without_c hK (hW.since.mono hG1) hsl) ?_
      rintro v4 w ⟨A4, ho4, hK⟩
      obtain ⟨G2, hG2, hv4, hK⟩ := K.pubO hK ho4
      have hW2 : WdS G2 lc { W with i := v3, s := v4 } (itW wd kd a b c) rs := by
       rw [hw]; exact ⟨hW.now, hW.ring.mono (hG1.trans hG2), hW.rg, LeaS.mono hW.leases (hG1.trans hG2), ItS.mono hv3 hG2, hW.next, hW.told.mono (hG1.trans hG2), hv4⟩
      refine vl (fa underlying31 rfl Ty.z22 rfl) <| ?_
      refine so hK Ty.i22 rfl 2 rfl rfl rfl hv4.1.one rfl ?_
      intro w hK
      refine nl <| thn <| sq <| rg <| vl (lsO hK Ty.a31 Ty.s31 2 rfl rfl rfl) <| ?_
      refine soS hK Ty.i31 0 rfl rfl rfl rfl (WdS.one hW2) rfl ?_
      intro w hK
      refine nl <| thn <| rt <| pg1r (rvS hK Ty.a31 Ty.s31 0 rfl rfl rfl) <| ?_
      exact ⟨G2, _, hG1.trans hG2, rfl, hW2, hK.drop1.drop1.drop1⟩
     ·rw [if_neg g6] at hw
      have hW2 : WdS G1 lc { W with i := v3 } (itW wd kd a b c) rs := by
       rw [hw]; exact ⟨hW.now, hW.ring.mono hG1, hW.rg, LeaS.mono hW.leases hG1, hv3, hW.next, hW.told.mono hG1, hW.since.mono hG1⟩
      refine sk <| thn <| sq <| rg <| ?_
      refine vl (lsO hK Ty.a31 Ty.s31 2 rfl rfl rfl) <| ?_
      refine soS hK Ty.i31 0 rfl rfl rfl rfl (WdS.one hW2) rfl ?_
      intro w hK
      refine nl <| thn <| rt <| pg1r (rvS hK Ty.a31 Ty.s31 0 rfl rfl rfl) <| ?_
      exact ⟨G1, _, hG1, rfl, hW2, hK.drop1.drop1.drop1⟩
end
end Go.Proofs.YtmgggljicpmndaaGreatDoor
