/- Contracts of the specification's renewal of leases. Contracts of the specification's copies of worlds. Conditions: those that each row states. -/
import Derived.Test.YtbiihblpgfgaoabGreatDoorLe
import Derived.Test.YtbiihblpgfgaoabGreatDoorAo
namespace Go.Proofs.YtbiihblpgfgaoabGreatDoor
open Go Go.Ro Tryz
section
variable {e w : World} {G : View} {L A : Own} {v u : Value} {ls ms : List Ls} {ow now un : Int} {i j : Nat} {x : Ls}
theorem specLeaseRenew_c (hK : K e w G L) (hv : LeaS G v ls) : Ret prog 94 #[v, .int .i64 ow, .int .i64 now, .int .i64 un] w (fun r w' => ∃ G' u n, VLe G G' ∧ r = .tuple #[u, .int .i64 n] ∧ (¬ (LsOk ls ∧ Pt ow ∧ Tm now ∧ Tm un) → n = -1) ∧ ((LsOk ls ∧ Pt ow ∧ Tm now ∧ Tm un) → n = (renewN ls ow now un : Int) ∧ LeaS G' u (renewL ls ow now un)) ∧ K e w' G' L) := by
 refine enter2 (args := [v, .int .i64 ow, .int .i64 now, .int .i64 un]) func94 rfl rfl rfl rfl ?_
 refine sq <| rg <| ?_
 refine vl asg <| vl (aI rfl) <| nl <| thn <| sq <| sq <| rg <| vl mv <| ?_
 refine cl call105 rfl (specLeasesValid_c hK (by assumption)) ?_
 rintro _ w ⟨rfl, hK⟩
 refine vl (ntB rfl) <| vl (mB rfl) <| ?_
 refine spl (t := 16) rfl (fun h1 => ?_) fun h1 => ?_
 ·have h1' := not_dec (Eq.mp (Bool.not_eq_true' _) h1)
  refine gn rfl <| gn rfl <| gn rfl <| vl (pk rfl) <| vl (mB rfl) <| gn rfl <| gn rfl <| gn rfl <| vl (pk rfl) <| vl (mB rfl) <| gn rfl <| gn rfl <| gn rfl <| vl (pk rfl) <| nl <| thn <| ?_
  refine cdt rfl ?_
  refine sq <| rg <| ?_
  refine bs0 hK underlying33 Ty.i86 ?_
  intro b31 w hK
  refine vl asg <| vl (aI rfl) <| nl <| thn <| rt <| thr <| p2r (a := _) (b := .int _ _) rfl rfl <| ?_
  exact ⟨G, _, _, VLe.refl _, rfl, fun _ => rfl, fun h => absurd h.1 h1', hK.drop1⟩
 ·have h1' := of_dec (Eq.mp (Bool.not_eq_false' _) h1)
  have hlen := h1'.1.2
  refine gy rfl <| vl (mI rfl) <| gy rfl <| ?_
  refine cl call70 rfl (l1Point_c (C := fun w => K _ w _ _) hK) ?_
  rintro _ w ⟨rfl, hK⟩
  refine gy rfl <| vl (nt rfl) <| vl (pk rfl) <| vl (mB rfl) <| ?_
  refine splP (t := 21) rfl (fun h2 => ?_) fun h2 => ?_
  ·refine gn rfl <| gn rfl <| gn rfl <| vl (pk rfl) <| vl (mB rfl) <| gn rfl <| gn rfl <| gn rfl <| vl (pk rfl) <| nl <| thn <| ?_
   refine cdt rfl ?_
   refine sq <| rg <| ?_
   refine bs0 hK underlying33 Ty.i86 ?_
   intro b31 w hK
   refine vl asg <| vl (aI rfl) <| nl <| thn <| rt <| thr <| p2r (a := _) (b := .int _ _) rfl rfl <| ?_
   exact ⟨G, _, _, VLe.refl _, rfl, fun _ => rfl, fun h => absurd h.2.1 h2, hK.drop1⟩
  ·refine gy rfl <| vl (mI rfl) <| gy rfl <| ?_
   refine cl call103 rfl (l12Time_c (C := fun w => K _ w _ _) hK) ?_
   rintro _ w ⟨rfl, hK⟩
   refine gy rfl <| vl (nt rfl) <| vl (pk rfl) <| vl (mB rfl) <| ?_
   refine splP (t := 26) rfl (fun h3 => ?_) fun h3 => ?_
   ·refine gn rfl <| gn rfl <| gn rfl <| vl (pk rfl) <| nl <| thn <| ?_
    refine cdt rfl ?_
    refine sq <| rg <| ?_
    refine bs0 hK underlying33 Ty.i86 ?_
    intro b31 w hK
    refine vl asg <| vl (aI rfl) <| nl <| thn <| rt <| thr <| p2r (a := _) (b := .int _ _) rfl rfl <| ?_
    exact ⟨G, _, _, VLe.refl _, rfl, fun _ => rfl, fun h => absurd h.2.2.1 h3, hK.drop1⟩
   ·refine gy rfl <| vl (mI rfl) <| gy rfl <| ?_
    refine cl call103 rfl (l12Time_c (C := fun w => K _ w _ _) hK) ?_
    rintro _ w ⟨rfl, hK⟩
    refine gy rfl <| vl (nt rfl) <| vl (pk rfl) <| nl <| thn <| ?_
    refine cdP rfl (fun h4 => ?_) fun h4 => ?_
    ·refine sq <| rg <| ?_
     refine bs0 hK underlying33 Ty.i86 ?_
     intro b31 w hK
     refine vl asg <| vl (aI rfl) <| nl <| thn <| rt <| thr <| p2r (a := _) (b := .int _ _) rfl rfl <| ?_
     exact ⟨G, _, _, VLe.refl _, rfl, fun _ => rfl, fun h => absurd h.2.2.2 h4, hK.drop1⟩
    ·have hok : LsOk ls ∧ Pt ow ∧ Tm now ∧ Tm un := ⟨h1', Decidable.not_not.1 h2, Decidable.not_not.1 h3, Decidable.not_not.1 h4⟩
     refine sk <| thn <| sq <| rg <| ?_
     refine bs0 hK underlying33 Ty.i86 ?_
     intro b32 w hK
     refine vl mv <| ?_
     refine apE (A := [(b32, row [] 86)]) (xs := []) (c := lc) (fun _ => rfl) rfl (fun _ => rfl) hK underlying33 Ty.i86 rfl rfl rfl OS.none rfl hv (by simp; omega) fun v' A' w ho hK => ?_
     simp only [List.nil_append] at ho
     refine vl asg <| nl <| thn <| sq <| rg <| vl (aI rfl) <| nl <| thn <| sq <| sq <| rg <| vl (aI rfl) <| nl <| thn <| bk <| ?_
     refine lp (σ := Nat × Own) (fun s => [(1, .int .i64 ow), (2, .int .i64 now), (3, .int .i64 un), (10, v'), (11, .int .i64 ((ls.take s.1).countP (rnw ow now un) : Int)), (12, .int .i64 (s.1 : Int))]) (fun s w => s.1 ≤ ls.length ∧ OS 3 86 v' ls.length (((ls.take s.1).map (rn1 ow now un) ++ ls.drop s.1).flatMap lc) s.2 ∧ K e w G (s.2 ++ L)) (fun s => ls.length - s.1) (0, A') ⟨rfl, rfl, rfl, rfl, rfl, rfl, trivial⟩ ⟨Nat.zero_le _, ho, hK⟩ ?_
     rintro ⟨i, A⟩ g w ⟨hi, ho, hK⟩
     simp only at hi ho hK
     refine sq <| sq <| rg <| ?_
     refine vl (mI rfl) <| vl mv <| vl (ln underlying33 rfl ho.len) <| vl (lt rfl rfl) <| nl <| thn <| ?_
     refine cdP rfl (fun hc => ?_) fun hc => ?_
     ·have hi' : i < ls.length := by simp only at hc; omega
      have hcn : (ls.take i).countP (rnw ow now un) ≤ i := Nat.le_trans List.countP_le_length (by simp; omega)
      refine sk <| thn <| sq <| bk <| sq <| rg <| ?_
      refine vl mv <| vl (mI rfl) <| vl (ixn underlying33 Ty.s86 rfl ho.slw rfl hi') <| vl (fe underlying86 rfl Ty.z3 rfl ho.slw om) <| vl (ldC Ty.o3 rfl (OS.fcell (c := lc) (fun _ => rfl) ho hK (rn_get hi') (j := 1) rfl)) <| vl (mI rfl) <| vl (eq rfl rfl) <| vl (mB rfl) <| ?_
      refine splP (t := 48) rfl (fun h5 => ?_) fun h5 => ?_
      ·refine gy rfl <| vl mv <| gy rfl <| vl (mI rfl) <| gy rfl <| vl (ixn underlying33 Ty.s86 rfl ho.slw rfl hi') <| gy rfl <| vl (fe underlying86 rfl Ty.z3 rfl ho.slw om) <| gy rfl <| vl (ldC Ty.o3 rfl (OS.fcell (c := lc) (fun _ => rfl) ho hK (rn_get hi') (j := 2) rfl)) <| gy rfl <| vl (mI rfl) <| gy rfl <| vl (ge rfl rfl) <| vl (pk rfl) <| vl (mB rfl) <| ?_
       refine splP (t := 57) rfl (fun h6 => ?_) fun h6 => ?_
       ·refine gy rfl <| vl mv <| gy rfl <| vl (mI rfl) <| gy rfl <| vl (ixn underlying33 Ty.s86 rfl ho.slw rfl hi') <| gy rfl <| vl (fe underlying86 rfl Ty.z3 rfl ho.slw om) <| gy rfl <| vl (ldC Ty.o3 rfl (OS.fcell (c := lc) (fun _ => rfl) ho hK (rn_get hi') (j := 2) rfl)) <| gy rfl <| vl (mI rfl) <| gy rfl <| vl (lt rfl rfl) <| vl (pk rfl) <| nl <| thn <| ?_
        refine cdP rfl (fun h7 => ?_) fun h7 => ?_
        ·have hr : rnw ow now un ls[i] = true := decide_eq_true ⟨h5, by omega, h7⟩
         have h1r : rn1 ow now un ls[i] = (ls[i].1, ls[i].2.1, un) := by unfold rn1; rw [hr]; rfl
         refine sq <| rg <| ?_
         refine vl mv <| vl (mI rfl) <| vl (mI rfl) <| vl (ixn underlying33 Ty.s86 rfl ho.slw rfl hi') <| vl (fe underlying86 rfl Ty.z3 rfl ho.slw om) <| ?_
         refine osSetC (i := i * 3 + 2) (u := .int .i64 un) hK ho om Ty.i3 rfl rfl rfl rfl fun A2 w ho2 hK => ?_
         rw [flat_set (c := lc) (fun _ => rfl) _ i 2 ls[i] (ls[i].1, ls[i].2.1, un) (.int .i64 un) (rn_get hi') (by omega) rfl, ← h1r, rn_step hi'] at ho2
         refine nl <| thn <| rg <| vl (mI rfl) <| vl (ad rfl rfl) <| vl (aI rfl) <| nl <| bkn <| thn <| rg <| vl (mI rfl) <| vl (ad rfl rfl) <| vl (aI rfl) <| nl <| thn <| ?_
         exact ⟨(i + 1, A2), ⟨rfl, rfl, rfl, rfl, congrArg (Value.int .i64) (by simp only; rw [rn_count hi', hr]; simp), rfl, trivial⟩, ⟨hi', ho2, hK⟩, by simp only; omega⟩
        ·refine sk <| bkn <| thn <| rg <| ?_
         refine vl (mI rfl) <| vl (ad rfl rfl) <| vl (aI rfl) <| nl <| thn <| ?_
         have hr : rnw ow now un ls[i] = false := decide_eq_false fun h => h7 h.2.2
         have h1r : rn1 ow now un ls[i] = ls[i] := by unfold rn1; rw [hr]; rfl
         exact ⟨(i + 1, A), ⟨rfl, rfl, rfl, rfl, congrArg (Value.int .i64) (by simp only; rw [rn_count hi', hr]; rfl), rfl, trivial⟩, ⟨hi', by
          have := rn_step (ow := ow) (now := now) (un := un) hi'
          rw [h1r] at this
          simp only
          rw [← this, rn_same hi']; exact ho, hK⟩, by simp only; omega⟩
       ·refine gn rfl <| gn rfl <| gn rfl <| gn rfl <| gn rfl <| gn rfl <| gn rfl <| vl (pk rfl) <| nl <| thn <| ?_
        refine cdf rfl ?_
        refine sk <| bkn <| thn <| rg <| ?_
        refine vl (mI rfl) <| vl (ad rfl rfl) <| vl (aI rfl) <| nl <| thn <| ?_
        have hr : rnw ow now un ls[i] = false := decide_eq_false fun h => h6 (by have := h.2.1; omega)
        have h1r : rn1 ow now un ls[i] = ls[i] := by unfold rn1; rw [hr]; rfl
        exact ⟨(i + 1, A), ⟨rfl, rfl, rfl, rfl, congrArg (Value.int .i64) (by simp only; rw [rn_count hi', hr]; rfl), rfl, trivial⟩, ⟨hi', by
         have := rn_step (ow := ow) (now := now) (un := un) hi'
         rw [h1r] at this
         simp only
         rw [← this, rn_same hi']; exact ho, hK⟩, by simp only; omega⟩
      ·refine gn rfl <| gn rfl <| gn rfl <| gn rfl <| gn rfl <| gn rfl <| gn rfl <| vl (pk rfl) <| vl (mB rfl) <| gn rfl <| gn rfl <| gn rfl <| gn rfl <| gn rfl <| gn rfl <| gn rfl <| vl (pk rfl) <| nl <| thn <| ?_
       refine cdf rfl ?_
       refine sk <| bkn <| thn <| rg <| ?_
       refine vl (mI rfl) <| vl (ad rfl rfl) <| vl (aI rfl) <| nl <| thn <| ?_
       have hr : rnw ow now un ls[i] = false := decide_eq_false fun h => h5 h.1
       have h1r : rn1 ow now un ls[i] = ls[i] := by unfold rn1; rw [hr]; rfl
       exact ⟨(i + 1, A), ⟨rfl, rfl, rfl, rfl, congrArg (Value.int .i64) (by simp only; rw [rn_count hi', hr]; rfl), rfl, trivial⟩, ⟨hi', by
        have := rn_step (ow := ow) (now := now) (un := un) hi'
        rw [h1r] at this
        simp only
        rw [← this, rn_same hi']; exact ho, hK⟩, by simp only; omega⟩
     ·have hi' : i = ls.length := by simp only at hc; omega
      subst hi'
      rw [List.drop_length, List.append_nil, List.take_length] at ho
      rw [List.take_length]
      refine ex <| the <| the <| bkh <| thn <| sq <| rg <| ?_
      refine vl mv <| vl (mI rfl) <| vl asg <| vl (aI rfl) <| nl <| thn <| rt <| p2r (a := _) (b := .int _ _) rfl rfl <| ?_
      obtain ⟨G2, hG2, hx, hK⟩ := K.pubE (c := lc) (xs := renewL ls ow now un) (fun _ => rfl) hK (by unfold renewL; rw [List.length_map]; exact ho)
      exact ⟨G2, _, _, hG2, rfl, fun h => absurd hok h, fun _ => ⟨rfl, hx⟩, hK⟩
end
open Go Go.Ro Tryz
section
variable {e w : World} {G : View} {L A : Own} {v u : Value} {xs ys : List Int} {ls ms : List Ls} {rs qs : List Rn} {zs ts : List It} {W W' : Wv} {wd wd' : Wd} {a b c k kd id other : Int} {i j bk o : Nat}
def cpΨ (W : Wv) (wd : Wd) (i : Nat) (s : View × List Value) (u : Value) : Prop :=
 match i with
 | 4 => ∃ qs, RngS s.1 u qs ∧ rgl qs = wd.ring
 | 5 => ∃ b : Nat, u = .slice (some ⟨b, 0, none⟩) 0 0
 | 9 => ∃ b : Nat, u = .slice (some ⟨b, 0, none⟩) 0 0
 | 16 => ∃ b : Nat, u = .slice (some ⟨b, 0, none⟩) 0 0
 | 22 => ∃ b : Nat, u = .slice (some ⟨b, 0, none⟩) 0 0
 | 8 => LeaS s.1 u wd.leases
 | 12 => ItS s.1 u wd.items
 | 20 => IntS s.1 u wd.scan.2
 | 21 => ∃ t, u = .agg #[.int .i64 W.next, t] ∧ IntS s.1 t wd.scan.2
 | 25 => IntS s.1 u wd.since
 | 26 => ∃ V qs, u = .agg (wc V).toArray ∧ WdS s.1 lc V wd qs
 | 27 => ∃ V qs, s.2 = wc V ∧ WdS s.1 lc V wd qs
 | _ => True
theorem cpΨ.mono {W : Wv} {wd : Wd} {G G' : View} {cs : List Value} (hG : VLe G G') : ∀ (i : Nat) (u : Value), cpΨ W wd i (G, cs) u → cpΨ W wd i (G', cs) u := by
 intro i u h
 unfold cpΨ at h ⊢
 split at h
 all_goals first
  | exact h
  | exact SlR.mono (G := G) (G' := G') (fun _ _ h => h) h hG
  | (obtain ⟨qs, h1, h2⟩ := h; exact ⟨qs, h1.mono hG, h2⟩)
  | (obtain ⟨t, h1, h2⟩ := h; exact ⟨t, h1, IntS.mono h2 hG⟩)
  | (obtain ⟨V, qs, h1, h2⟩ := h; exact ⟨V, qs, h1, h2.mono hG⟩)
theorem cpΨ.cs {W : Wv} {wd : Wd} {G : View} {cs cs' : List Value} : ∀ (i : Nat) (u : Value), i ≠ 27 → cpΨ W wd i (G, cs) u → cpΨ W wd i (G, cs') u := by
 intro i u hi h
 unfold cpΨ at h ⊢
 split at h
 all_goals first
  | exact h
  | exact absurd rfl hi
theorem l51Copy_c (hK : K e w G L) (hW : WdS G lc W wd rs) (hok : RgOk wd.ring) (hll : wd.leases.length ≤ 1000000) (hil : wd.items.length ≤ 1000000) (htl : wd.scan.2.length ≤ 1000000) (hsl : wd.since.length ≤ 1000000) :
  Ret prog 67 #[.agg (wc W).toArray] w (fun r w' => ∃ G' W' rs', VLe G G' ∧ r = .agg (wc W').toArray ∧ WdS G' lc W' wd rs' ∧ K e w' G' L) := by
 have hok' : RgOk (rgl rs) := by rw [hW.rg]; exact hok
 refine enterG1 (args := [.agg (wc W).toArray]) func67 rfl rfl rfl rfl ?_
 refine sq <| rg <| ?_
 refine bx hK rfl rfl ?_
 intro b1 w hK
 refine al hK Ty.i39 rfl ?_
 intro b2 w hK
 refine nl <| thn <| sq <| ?_
 refine ct (σ := View × Wv × List Rn) (fun s => [(2, .pointer (some ⟨b2, 0, none⟩))]) (fun s w => VLe G s.1 ∧ WdS s.1 lc s.2.1 wd s.2.2 ∧ K e w s.1 ((b2, row (wc s.2.1) 39) :: (b1, row (wc W) 39) :: L)) ?_ ?_
 ·skip
  refine rgs (fun w => K e w G ((b1, row (wc W) 39) :: L)) (fun w => K _ w _ _) [U,U,U,U,U,U,U,U,U,U,U,U,U,U,U,U,U,U,U,U,U,U,U,U,U,U,U,U] 28 Ty.mixed rfl rfl (hK.drawn _) ?_
  intro w hK
  have hS : (fun w => K e w G ((b1, row (wc W) 39) :: L)) w := K.sl hK
  refine xt (i := 0) rfl kr rfl rfl (fun w hK => (fa underlying39 rfl Ty.z3 rfl)) hS <| xt (i := 1) rfl kr rfl rfl (fun w hK => (ldO hK Ty.o3 0 rfl rfl rfl)) hS <| xt (i := 2) rfl kr rfl rfl (fun w hK => (fa underlying39 rfl Ty.z32 rfl)) hS <| xt (i := 3) rfl kr rfl rfl (fun w hK => (ldO hK Ty.o32 0 rfl rfl rfl)) hS <| xt (i := 6) rfl kr rfl rfl (fun w hK => (fa underlying39 rfl Ty.z33 rfl)) hS <| xt (i := 7) rfl kr rfl rfl (fun w hK => (ldO hK Ty.o33 0 rfl rfl rfl)) hS <| xt (i := 10) rfl kr rfl rfl (fun w hK => (fa underlying39 rfl Ty.z34 rfl)) hS <| xt (i := 11) rfl kr rfl rfl (fun w hK => (ldO hK Ty.o34 0 rfl rfl rfl)) hS <| xt (i := 13) rfl kr rfl rfl (fun w hK => (fa underlying39 rfl Ty.z37 rfl)) hS <| xt (i := 14) rfl kr rfl rfl (fun w hK => (fa underlying37 rfl Ty.z3 rfl)) hS <| xt (i := 15) rfl kr rfl rfl (fun w hK => (ldO hK Ty.o3 0 rfl rfl rfl)) hS <| xt (i := 17) rfl kr rfl rfl (fun w hK => (fa underlying39 rfl Ty.z37 rfl)) hS <| xt (i := 18) rfl kr rfl rfl (fun w hK => (fa underlying37 rfl Ty.z35 rfl)) hS <| xt (i := 19) rfl kr rfl rfl (fun w hK => (ldO hK Ty.o35 0 rfl rfl rfl)) hS <| xt (i := 23) rfl kr rfl rfl (fun w hK => (fa underlying39 rfl Ty.z35 rfl)) hS <| xt (i := 24) rfl kr rfl rfl (fun w hK => (ldO hK Ty.o35 0 rfl rfl rfl)) hS <| ?_
  refine forgetF (p := fun f0 => WX _ _ _ _ _ _ _ f0 w) [(2, .pointer (some ⟨b2, 0, none⟩)), (4, .int .i64 W.now), (6, W.r), (10, W.l), (14, W.i), (18, .int .i64 W.next), (22, W.t), (27, W.s)] ⟨rfl, rfl, rfl, rfl, rfl, rfl, rfl, rfl, trivial⟩ ?_
  rintro f0 ⟨k2, k4, k6, k10, k14, k18, k22, k27, _⟩
  refine anyO (σ := View × List Value) (J := fun _ s w => VLe G s.1 ∧ s.2.length = 7 ∧ K e w s.1 ((b2, row s.2 39) :: (b1, row (wc W) 39) :: L)) (Ψ := cpΨ W wd) (D := [7, 8, 11, 12, 15, 19, 23, 24, 25, 28, 29, 9027]) (d := fun i => [9100, 9101, 9102, 9103, 7, 8, 9106, 9107, 11, 12, 9110, 9111, 15, 9113, 9114, 9115, 19, 9117, 9118, 9119, 23, 24, 25, 9123, 9124, 28, 29, 9027].getD i 0) kr (fun i _ hi => by have h := falses (r := [4, 5, 8, 9, 12, 16, 20, 21, 22, 25, 26, 27]) (by decide) hi; revert i; decide) (fun i j hi hj _ he => getD_inj (by decide) hi hj he) (fun _ _ _ ⟨hG, _, hK⟩ => K.vle hK.drop1 hG) ?_ ?_ _ _ _ _ (G, [.int .i64 0, .slice none 0 0, .slice none 0 0, .slice none 0 0, .int .i64 0, .slice none 0 0, .slice none 0 0]) rfl (by decide) (fun _ h => h) ?_ (fun _ _ => rfl) ?_ ⟨VLe.refl _, rfl, hK⟩
  ·intro i hi
   have h := falses (r := [4, 5, 8, 9, 12, 16, 20, 21, 22, 25, 26, 27]) (by decide) hi
   simp only [List.mem_cons, List.not_mem_nil, or_false] at h
   rcases h with rfl | rfl | rfl | rfl | rfl | rfl | rfl | rfl | rfl | rfl | rfl | rfl
   ·intro o ho l s f w hln hun hcl hb hp hJ hdep R hR
    obtain rfl := Option.some.inj ho
    obtain ⟨hG, h7, hK⟩ := hJ
    obtain ⟨G1, cs⟩ := s
    simp only at hG h7 hK
    refine cl call109 (by show [f 6] = _; rw [hb 6 (by decide), k6]) (l3Copy_v hK (hW.ring.mono hG) hok') ?_
    rintro r w ⟨G2, qs, hG2, hq, hR2, hK⟩
    exact nl (hR _ _ (G2, cs) (fun x hx => upd_ne' hx) ⟨qs, hR2, hq.trans hW.rg⟩ (fun j u _ h => cpΨ.mono hG2 j u h) ⟨hG.trans hG2, h7, hK⟩)
   ·intro o ho l s f w hln hun hcl hb hp hJ hdep R hR
    obtain rfl := Option.some.inj ho
    obtain ⟨hG, h7, hK⟩ := hJ
    obtain ⟨G1, cs⟩ := s
    simp only at hG h7 hK
    refine bs0P hK underlying33 Ty.i86 fun b w hK => ?_
    exact nl (hR _ _ (G1, cs) (fun x hx => upd_ne' hx) ⟨b, rfl⟩ (fun j u _ h => h) ⟨hG, h7, hK⟩)
   ·intro o ho l s f w hln hun hcl hb hp hJ hdep R hR
    obtain rfl := Option.some.inj ho
    obtain ⟨hG, h7, hK⟩ := hJ
    obtain ⟨G1, cs⟩ := s
    simp only at hG h7 hK
    have D8 := dep_of hdep [5, 7, 4] rfl
    obtain ⟨b, hbv⟩ := hp 5 (D8 5 (by decide))
    refine ap0 (c := lc) (fun _ => rfl) rfl (fun _ => rfl) hK underlying33 Ty.i86 rfl rfl hbv ((hb 10 (by decide)).trans k10) (LeaS.mono hW.leases hG) (by omega) fun v G2 w hG2 hv hK => ?_
    exact nl (hR _ _ (G2, cs) (fun x hx => upd_ne' hx) hv (fun j u _ h => cpΨ.mono hG2 j u h) ⟨hG.trans hG2, h7, hK⟩)
   ·intro o ho l s f w hln hun hcl hb hp hJ hdep R hR
    obtain rfl := Option.some.inj ho
    obtain ⟨hG, h7, hK⟩ := hJ
    obtain ⟨G1, cs⟩ := s
    simp only at hG h7 hK
    refine bs0P hK underlying34 Ty.i51 fun b w hK => ?_
    exact nl (hR _ _ (G1, cs) (fun x hx => upd_ne' hx) ⟨b, rfl⟩ (fun j u _ h => h) ⟨hG, h7, hK⟩)
   ·intro o ho l s f w hln hun hcl hb hp hJ hdep R hR
    obtain rfl := Option.some.inj ho
    obtain ⟨hG, h7, hK⟩ := hJ
    obtain ⟨G1, cs⟩ := s
    simp only at hG h7 hK
    have D8 := dep_of hdep [9, 11, 8] rfl
    obtain ⟨b, hbv⟩ := hp 9 (D8 9 (by decide))
    refine ap0 (c := ic) (fun _ => rfl) rfl (fun _ => rfl) hK underlying34 Ty.i51 rfl rfl hbv ((hb 14 (by decide)).trans k14) (hW.items.mono hG) (by omega) fun v G2 w hG2 hv hK => ?_
    exact nl (hR _ _ (G2, cs) (fun x hx => upd_ne' hx) hv (fun j u _ h => cpΨ.mono hG2 j u h) ⟨hG.trans hG2, h7, hK⟩)
   ·intro o ho l s f w hln hun hcl hb hp hJ hdep R hR
    obtain rfl := Option.some.inj ho
    obtain ⟨hG, h7, hK⟩ := hJ
    obtain ⟨G1, cs⟩ := s
    simp only at hG h7 hK
    refine bs0P hK underlying35 Ty.i3 fun b w hK => ?_
    exact nl (hR _ _ (G1, cs) (fun x hx => upd_ne' hx) ⟨b, rfl⟩ (fun j u _ h => h) ⟨hG, h7, hK⟩)
   ·intro o ho l s f w hln hun hcl hb hp hJ hdep R hR
    obtain rfl := Option.some.inj ho
    obtain ⟨hG, h7, hK⟩ := hJ
    obtain ⟨G1, cs⟩ := s
    simp only at hG h7 hK
    have D8 := dep_of hdep [16, 19, 12] rfl
    obtain ⟨b, hbv⟩ := hp 16 (D8 16 (by decide))
    refine ap0I hK underlying35 Ty.i3 rfl hbv ((hb 22 (by decide)).trans k22) (hW.told.mono hG) (by omega) fun v G2 w hG2 hv hK => ?_
    exact nl (hR _ _ (G2, cs) (fun x hx => upd_ne' hx) hv (fun j u _ h => cpΨ.mono hG2 j u h) ⟨hG.trans hG2, h7, hK⟩)
   ·intro o ho l s f w hln hun hcl hb hp hJ hdep R hR
    obtain rfl := Option.some.inj ho
    obtain ⟨hG, h7, hK⟩ := hJ
    obtain ⟨G1, cs⟩ := s
    simp only at hG h7 hK
    have D8 := dep_of hdep [15, 20] rfl
    have h20 := hp 20 (D8 20 (by decide))
    refine vl (bd [(0, [.int .i64 W.next]), (1, [f 23])] Ty.p37 Ty.i37 rfl ⟨⟨rfl, cells_of ((hb 18 (by decide)).trans k18) rfl⟩, ⟨rfl, one_cells (SlW.one h20.1)⟩, trivial⟩ rfl) (nl (hR _ _ (G1, cs) (fun x hx => upd_ne' hx) ⟨f 23, rfl, h20⟩ (fun j u _ h => h) ⟨hG, h7, hK⟩))
   ·intro o ho l s f w hln hun hcl hb hp hJ hdep R hR
    obtain rfl := Option.some.inj ho
    obtain ⟨hG, h7, hK⟩ := hJ
    obtain ⟨G1, cs⟩ := s
    simp only at hG h7 hK
    refine bs0P hK underlying35 Ty.i3 fun b w hK => ?_
    exact nl (hR _ _ (G1, cs) (fun x hx => upd_ne' hx) ⟨b, rfl⟩ (fun j u _ h => h) ⟨hG, h7, hK⟩)
   ·intro o ho l s f w hln hun hcl hb hp hJ hdep R hR
    obtain rfl := Option.some.inj ho
    obtain ⟨hG, h7, hK⟩ := hJ
    obtain ⟨G1, cs⟩ := s
    simp only at hG h7 hK
    have D8 := dep_of hdep [22, 24, 20] rfl
    obtain ⟨b, hbv⟩ := hp 22 (D8 22 (by decide))
    refine ap0I hK underlying35 Ty.i3 rfl hbv ((hb 27 (by decide)).trans k27) (hW.since.mono hG) (by omega) fun v G2 w hG2 hv hK => ?_
    exact nl (hR _ _ (G2, cs) (fun x hx => upd_ne' hx) hv (fun j u _ h => cpΨ.mono hG2 j u h) ⟨hG.trans hG2, h7, hK⟩)
   ·intro o ho l s f w hln hun hcl hb hp hJ hdep R hR
    obtain rfl := Option.some.inj ho
    obtain ⟨hG, h7, hK⟩ := hJ
    obtain ⟨G1, cs⟩ := s
    simp only at hG h7 hK
    have D8 := dep_of hdep [1, 4, 8, 12, 21, 25] rfl
    obtain ⟨qs, hq1, hq2⟩ := hp 4 (D8 4 (by decide))
    have h8 := hp 8 (D8 8 (by decide))
    have h12 := hp 12 (D8 12 (by decide))
    obtain ⟨t, ht1, ht2⟩ := hp 21 (D8 21 (by decide))
    have h25 := hp 25 (D8 25 (by decide))
    refine vl (bd [(0, [.int .i64 W.now]), (1, [f 7]), (2, [f 11]), (3, [f 15]), (4, [.int .i64 W.next, t]), (5, [f 28])] Ty.p39 Ty.i39 rfl ⟨⟨rfl, cells_of ((hb 4 (by decide)).trans k4) rfl⟩, ⟨rfl, one_cells hq1.sl.1.one⟩, ⟨rfl, one_cells (SlW.one h8.1)⟩, ⟨rfl, one_cells (SlW.one h12.1)⟩, ⟨rfl, cells_of ht1 rfl⟩, ⟨rfl, one_cells (SlW.one h25.1)⟩, trivial⟩ rfl) (nl (hR _ _ (G1, cs) (fun x hx => upd_ne' hx) ⟨⟨W.now, f 7, f 11, f 15, W.next, t, f 28⟩, qs, rfl, ⟨hW.now, hq1, hq2, h8, h12, hW.next, ht2, h25⟩⟩ (fun j u _ h => h) ⟨hG, h7, hK⟩))
   ·intro o ho l s f w hln hun hcl hb hp hJ hdep R hR
    obtain rfl := Option.some.inj ho
    obtain ⟨hG, h7, hK⟩ := hJ
    obtain ⟨G1, cs⟩ := s
    simp only at hG h7 hK
    have D8 := hp 26 (hdep ⟨26, .data⟩ (List.mem_cons_self ..) rfl)
    obtain ⟨V, qs, hv1, hv2⟩ := D8
    have hcs : cs.take 0 ++ wc V ++ cs.drop (0 + (wc V).length) = wc V := by
     rw [List.take_zero, List.nil_append, List.drop_eq_nil_of_le (by rw [h7]; exact Nat.le_refl _), List.append_nil]
    refine soS hK Ty.i39 0 rfl ((hb 2 (by decide)).trans k2) hv1 rfl (WdS.one hv2) (by rw [h7]; rfl) (fun w hK => nl (hR _ _ (G1, wc V) (fun _ _ => rfl) ⟨V, qs, rfl, hv2⟩ (fun j u hj h => cpΨ.cs j u hj h) ⟨hG, rfl, by rw [hcs] at hK; exact hK⟩))
  ·intro l s f w hall hb hp hJ
   obtain ⟨V, qs, h1, h2⟩ := hp 27 (by decide)
   obtain ⟨G1, cs⟩ := s
   simp only at h1 h2
   subst h1
   exact ⟨(G1, V, qs), ⟨(hb 2 (by decide)).trans k2, trivial⟩, hJ.1, h2, hJ.2.2⟩
  ·exact clo_of kr
  ·intro i hi
   have h := trues (r := [0, 1, 2, 3, 6, 7, 10, 11, 13, 14, 15, 17, 18, 19, 23, 24]) (by decide) hi
   simp only [List.mem_cons, List.not_mem_nil, or_false] at h
   rcases h with rfl | rfl | rfl | rfl | rfl | rfl | rfl | rfl | rfl | rfl | rfl | rfl | rfl | rfl | rfl | rfl <;> trivial
 ·rintro ⟨G', W', rs'⟩ g w ⟨hG, hW', hK⟩
  refine thn <| rt <| pg1r (rvS hK Ty.a39 Ty.s39 0 rfl rfl rfl) <| ?_
  simp only at hG hW' hK
  exact ⟨G', W', rs', hG, rfl, hW', hK.drop1.drop1⟩
end
end Go.Proofs.YtbiihblpgfgaoabGreatDoor
