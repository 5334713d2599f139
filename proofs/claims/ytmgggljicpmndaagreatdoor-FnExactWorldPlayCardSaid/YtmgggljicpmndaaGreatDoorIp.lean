/- Insertions into slices. Conditions: those that each row states. -/
import Derived.Test.YtmgggljicpmndaaGreatDoorBs
import Derived.Test.YtmgggljicpmndaaGreatDoorWm2
namespace Go.Proofs.YtmgggljicpmndaaGreatDoor
open Go Go.Ro Tryz
section
variable {e w : World} {G : View} {L A : Own} {v u : Value} {k : Int} {i b2 : Nat}
section
variable {xs : List It} {x : It}
set_option maxHeartbeats 1000000 in
theorem insertI_c (hK : K e w G ((b2, row (ic x) 104) :: (A ++ L))) (ho : OSx 2 104 v xs.length (xs.flatMap ic) A) (h1x : (ic x).all one = true) (h1s : ∀ y ∈ xs, (ic y).all one = true) (hi : i ≤ xs.length) (hl : xs.length ≤ 1000000) :
  Ret prog 161 #[v, .int .i64 (i : Int), .slice (some ⟨b2, 0, none⟩) 1 1] w (fun r w' => ∃ A', OS 2 104 r (xs.length + 1) ((xs.take i ++ x :: xs.drop i).flatMap ic) A' ∧ K e w' G (A' ++ L)) := by
 have hc : ∀ x, (ic x).length = 2 := fun _ => rfl
 have hs := ho.slw
 have hsl := hs.len
 have hvl : SlLen (.slice (some ⟨b2, 0, none⟩) 1 1) 1 := ⟨_, _, rfl⟩
 refine enter1 (args := [v, .int .i64 (i : Int), .slice (some ⟨b2, 0, none⟩) 1 1]) func161 rfl rfl rfl rfl ?_
 refine sq <| rg <| ?_
 refine vl asg <| nl <| thn <| sq <| rg <| vl mv <| vl (mI rfl) <| vl (slLo (l := i) underlying27 Ty.s104 rfl hs rfl hi) <| nl <| thn <| sq <| rg <| vl mv <| vl (ln underlying27 rfl (by assumption)) <| vl (aI rfl) <| nl <| thn <| ?_
 refine sq <| sq <| rg <| vl (mI rfl) <| vl (eq rfl rfl) <| nl <| thn <| ?_
 refine cdP rfl (fun h0 => ?_) fun h0 => ?_
 ·exfalso; omega
 ·refine sk <| thn <| sq <| rg <| ?_
  refine vl mv <| vl (ln underlying27 rfl hs.len) <| vl (aI rfl) <| nl <| thn <| sq <| sq <| rg <| vl (mI rfl) <| vl (mI rfl) <| vl (eq rfl rfl) <| nl <| thn <| ?_
  refine cdP rfl (fun hin => ?_) fun hin => ?_
  ·have hin' : i = xs.length := by omega
   refine sq <| rg <| ?_
   refine vl mv <| vl mv <| ?_
   refine apE1x (c := ic) (k := x) (fun _ => rfl) h1x hK underlying27 Ty.i104 rfl rfl rfl ho rfl om fun v1 A1 w ho hK => ?_
   have ho2 : OS 2 104 v1 (xs.length + 1) ((xs.take i ++ x :: xs.drop i).flatMap ic) A1 := by
    rw [hin', List.take_length, List.drop_length]
    simpa using ho
   refine vl asg <| nl <| thn <| rt <| thr <| p1r (a := _) rfl <| ?_
   exact ⟨A1, ho2, hK⟩
  ·have hil : i < xs.length := by omega
   obtain ⟨b, cap, cur, rfl, rfl, g1, g2, g3, g4⟩ : ∃ b cap cur, v = .slice (some ⟨b, 0, none⟩) xs.length cap ∧ A = [(b, .cells cur 104 (0, 0))] ∧ xs.length ≤ cap ∧ cap ≤ maxLen ∧ cur.size = cap * 2 ∧ cur.toList.take (xs.length * 2) = xs.flatMap ic := by
    rcases ho with ⟨_, ⟨_, h, _⟩ | h⟩ | ⟨h, _⟩
    ·omega
    ·exact h
    ·omega
   have hcap : cap ≤ 9223372036854775807 := by unfold maxLen at g2; omega
   have hbb := hK.own b _ (List.mem_cons_of_mem _ (List.mem_cons_self ..))
   have hb2 := hK.own b2 _ (List.mem_cons_self ..)
   have hcl : cur.toList.length = cap * 2 := by rw [← g3]; exact Array.length_toList
   have htl : ((xs.drop i).flatMap ic).length = (xs.length - i) * 2 := by rw [flat_len hc, List.length_drop]
   have htail : ∀ k, k = (xs.length - i) * 2 → (cur.toList.drop (i * 2)).take k = (xs.drop i).flatMap ic := by
    intro k hk
    rw [← flat_drop hc, ← g4, List.drop_take, hk, Nat.sub_mul]
   have h1t : ∀ u ∈ (xs.drop i).flatMap ic, one u = true := fun u hu => by
    obtain ⟨y, hy, hu⟩ := List.mem_flatMap.1 hu
    exact List.all_eq_true.1 (h1s y (List.mem_of_mem_drop hy)) u hu
   have h1x' : ∀ u ∈ ic x, one u = true := fun u hu => List.all_eq_true.1 h1x u hu
   refine sk <| thn <| sq <| sq <| rg <| ?_
   refine vl (mI rfl) <| vl (mI rfl) <| vl (ad rfl rfl) <| vl mv <| vl (capS underlying27 rfl) <| vl (gt rfl rfl) <| nl <| thn <| ?_
   refine cdP rfl (fun hgr => ?_) fun hgr => ?_
   ·skip
    refine sq <| rg <| ?_
    refine vl mv <| vl (mI rfl) <| vl (slHiC (h := i) underlying27 Ty.s104 rfl rfl om) <| vl (mI rfl) <| vl (mI rfl) <| vl (ad rfl rfl) <| vl (mI rfl) <| vl (sb rfl rfl) <| ?_
    refine apZ (cs := (xs.take i).flatMap ic) (k := xs.length + 1 - i) hK underlying27 underlying3 Ty.i104 rfl rfl rfl rfl (show _ = _ from congrArg (Value.int .i64) (by omega : (xs.length : Int) + 1 - (i : Int) = ((xs.length + 1 - i : Nat) : Int))) (by rw [flat_len hc, List.length_take, Nat.min_eq_left hi]) (partB hbb (by rw [List.drop_zero, ← flat_take hc, ← g4, List.take_take, Nat.min_eq_left (Nat.mul_le_mul_right _ hi)])) om om om fun b' c' cu w k1 k2 k3 k4 hK => ?_
    refine vl asg <| nl <| thn <| sq <| rg <| vl mv <| vl (mI rfl) <| vl (slLoC (l := i) underlying27 Ty.s104 rfl rfl om om om) <| vl mv <| ?_
    have hxl : (ic x).length = Nat.min 1 (i + (xs.length + 1 - i) - i) * 2 := by
     have : Nat.min 1 (i + (xs.length + 1 - i) - i) = 1 := Nat.min_eq_left (by omega)
     rw [this]; rfl
    refine cpK (cs := ic x) hK underlying27 Ty.s104 rfl rfl hxl (partB (o := 0) (hK.own b2 _ (List.mem_cons_of_mem _ (List.mem_cons_self ..))) (List.take_of_length_le (Nat.le_refl _))) (by rw [k3, hc]; omega) h1x' fun w hK => ?_
    refine nl <| thn <| sq <| ?_
    refine rgs (fun w => K e w G L) (fun w => K _ w _ _) [U,U,U,U,U,U,U,U,U] 9 Ty.mixed rfl rfl (hK.drawn _) ?_
    intro w hK
    have hS : (fun w => K e w G L) w := K.sl hK
    refine xt (i := 0) rfl kr rfl rfl (fun w hK => mv) hS <| xt (i := 1) rfl kr rfl rfl (fun w hK => (mI rfl)) hS <| xt (i := 2) rfl kr rfl rfl (fun w hK => (mI rfl)) hS <| xt (i := 3) rfl kr rfl rfl (fun w hK => (ad rfl rfl)) hS <| xt (i := 4) rfl kr rfl rfl (fun w hK => (slLoC (l := i + 1) underlying27 Ty.s104 rfl rfl om om om)) hS <| xt (i := 5) rfl kr rfl rfl (fun w hK => mv) hS <| xt (i := 6) rfl kr rfl rfl (fun w hK => (mI rfl)) hS <| xt (i := 7) rfl kr rfl rfl (fun w hK => (slLoC (l := i) underlying27 Ty.s104 rfl rfl om om om)) hS <| ?_
    refine xe (i := 8) kr rfl rfl ?_
    have hrl : ((xs.drop i).flatMap ic).length = Nat.min (xs.length - i) (i + (xs.length + 1 - i) - (i + 1)) * 2 := by
     have : Nat.min (xs.length - i) (i + (xs.length + 1 - i) - (i + 1)) = xs.length - i := Nat.min_eq_left (by omega)
     rw [this]; exact htl
    refine cpK (cs := (xs.drop i).flatMap ic) hK underlying27 Ty.s104 rfl rfl hrl (partB (hK.own b _ (List.mem_cons_of_mem _ (List.mem_cons_of_mem _ (List.mem_cons_self ..)))) (htail _ htl)) (by rw [size_wr (by rw [k3, hc]; omega), k3, htl]; omega) h1t fun w hK => ?_
    refine xnk (K.sl hK) fun hS => ?_
    refine xd kr <| thn <| sq <| rg <| vl mv <| vl asg <| nl <| thn <| rt <| thr <| p1r (a := _) rfl <| ?_
    exact ⟨[(b', _)], insN hc hi (by omega) k2 k3 k4 _ (by omega), K.dropX (A := [_]) (K.dropX (A := [_]) hK)⟩
   ·skip
    refine sk <| thn <| sq <| rg <| ?_
    refine vl mv <| vl (mI rfl) <| vl (mI rfl) <| vl (ad rfl rfl) <| vl (slHiC (h := xs.length + 1) underlying27 Ty.s104 rfl rfl om) <| vl asg <| nl <| thn <| sq <| sq <| rg <| vl mv <| vl mv <| vl (mI rfl) <| vl (mI rfl) <| vl (ad rfl rfl) <| vl (slLoC (l := i + 1) underlying27 Ty.s104 rfl rfl om om om) <| ?_
    refine vl (exC rfl (run_ovl (tR := 4) func197 kr kr kr kr underlying27 Ty.i104 (K.neq hK) hb2 hbb (by rw [g3]; omega))) ?_
    refine vl (ntB rfl) <| nl <| thn <| ?_
    refine cdB rfl (fun hov => ?_) fun hov => ?_
    ·skip
     refine sq <| ?_
     refine rgs (fun w => K e w G L) (fun w => K _ w _ _) [U,U,U,U,U,U,U,U,U] 9 Ty.mixed rfl rfl (hK.drawn _) ?_
     intro w hK
     have hS : (fun w => K e w G L) w := K.sl hK
     refine xt (i := 0) rfl kr rfl rfl (fun w hK => mv) hS <| xt (i := 1) rfl kr rfl rfl (fun w hK => (mI rfl)) hS <| xt (i := 2) rfl kr rfl rfl (fun w hK => (mI rfl)) hS <| xt (i := 3) rfl kr rfl rfl (fun w hK => (ad rfl rfl)) hS <| xt (i := 4) rfl kr rfl rfl (fun w hK => (slLoC (l := i + 1) underlying27 Ty.s104 rfl rfl om om om)) hS <| xt (i := 5) rfl kr rfl rfl (fun w hK => mv) hS <| xt (i := 6) rfl kr rfl rfl (fun w hK => (mI rfl)) hS <| xt (i := 7) rfl kr rfl rfl (fun w hK => (slLoC (l := i) underlying27 Ty.s104 rfl rfl om om om)) hS <| ?_
     refine xe (i := 8) kr rfl rfl ?_
     replace hK := hK.swp
     have hrl : ((xs.drop i).flatMap ic).length = Nat.min (xs.length + 1 - i) (xs.length + 1 - (i + 1)) * 2 := by
      have : Nat.min (xs.length + 1 - i) (xs.length + 1 - (i + 1)) = xs.length - i := (Nat.min_eq_right (by omega)).trans (by omega)
      rw [this]; exact htl
     refine cpK (cs := (xs.drop i).flatMap ic) hK underlying27 Ty.s104 rfl rfl hrl (partB (hK.own b _ (List.mem_cons_self ..)) (htail _ htl)) (by rw [g3, htl]; omega) h1t fun w hK => ?_
     refine xnk (K.sl hK) fun hS => ?_
     refine xd kr <| thn <| sq <| rg <| vl mv <| vl (mI rfl) <| vl (slLoC (l := i) underlying27 Ty.s104 rfl rfl om om om) <| vl mv <| ?_
     have hxl : (ic x).length = Nat.min 1 (xs.length + 1 - i) * 2 := by
      have : Nat.min 1 (xs.length + 1 - i) = 1 := Nat.min_eq_left (by omega)
      rw [this]; rfl
     refine cpK (cs := ic x) hK underlying27 Ty.s104 rfl rfl hxl (partB (o := 0) (hK.own b2 _ (List.mem_cons_of_mem _ (List.mem_cons_self ..))) (List.take_of_length_le (Nat.le_refl _))) (by rw [size_wr (by rw [g3, htl]; omega), g3, hc]; omega) h1x' fun w hK => ?_
     refine nl <| thn <| sq <| rg <| vl mv <| vl asg <| nl <| thn <| rt <| thr <| p1r (a := _) rfl <| ?_
     exact ⟨[(b, _)], insR hc hi (by omega) g2 g3 g4 _ rfl, K.dropX (A := [_]) hK⟩
    ·simp at hov
end
section
variable {xs : List Ls} {x : Ls}
set_option maxHeartbeats 1000000 in
theorem insertL_c (hK : K e w G ((b2, row (lc x) 101) :: (A ++ L))) (ho : OSx 3 101 v xs.length (xs.flatMap lc) A) (h1x : (lc x).all one = true) (h1s : ∀ y ∈ xs, (lc y).all one = true) (hi : i ≤ xs.length) (hl : xs.length ≤ 1000000) :
  Ret prog 193 #[v, .int .i64 (i : Int), .slice (some ⟨b2, 0, none⟩) 1 1] w (fun r w' => ∃ A', OS 3 101 r (xs.length + 1) ((xs.take i ++ x :: xs.drop i).flatMap lc) A' ∧ K e w' G (A' ++ L)) := by
 have hc : ∀ x, (lc x).length = 3 := fun _ => rfl
 have hs := ho.slw
 have hsl := hs.len
 have hvl : SlLen (.slice (some ⟨b2, 0, none⟩) 1 1) 1 := ⟨_, _, rfl⟩
 refine enter1 (args := [v, .int .i64 (i : Int), .slice (some ⟨b2, 0, none⟩) 1 1]) func193 rfl rfl rfl rfl ?_
 refine sq <| rg <| ?_
 refine vl asg <| nl <| thn <| sq <| rg <| vl mv <| vl (mI rfl) <| vl (slLo (l := i) underlying26 Ty.s101 rfl hs rfl hi) <| nl <| thn <| sq <| rg <| vl mv <| vl (ln underlying26 rfl (by assumption)) <| vl (aI rfl) <| nl <| thn <| ?_
 refine sq <| sq <| rg <| vl (mI rfl) <| vl (eq rfl rfl) <| nl <| thn <| ?_
 refine cdP rfl (fun h0 => ?_) fun h0 => ?_
 ·exfalso; omega
 ·refine sk <| thn <| sq <| rg <| ?_
  refine vl mv <| vl (ln underlying26 rfl hs.len) <| vl (aI rfl) <| nl <| thn <| sq <| sq <| rg <| vl (mI rfl) <| vl (mI rfl) <| vl (eq rfl rfl) <| nl <| thn <| ?_
  refine cdP rfl (fun hin => ?_) fun hin => ?_
  ·have hin' : i = xs.length := by omega
   refine sq <| rg <| ?_
   refine vl mv <| vl mv <| ?_
   refine apE1x (c := lc) (k := x) (fun _ => rfl) h1x hK underlying26 Ty.i101 rfl rfl rfl ho rfl om fun v1 A1 w ho hK => ?_
   have ho2 : OS 3 101 v1 (xs.length + 1) ((xs.take i ++ x :: xs.drop i).flatMap lc) A1 := by
    rw [hin', List.take_length, List.drop_length]
    simpa using ho
   refine vl asg <| nl <| thn <| rt <| thr <| p1r (a := _) rfl <| ?_
   exact ⟨A1, ho2, hK⟩
  ·have hil : i < xs.length := by omega
   obtain ⟨b, cap, cur, rfl, rfl, g1, g2, g3, g4⟩ : ∃ b cap cur, v = .slice (some ⟨b, 0, none⟩) xs.length cap ∧ A = [(b, .cells cur 101 (0, 0))] ∧ xs.length ≤ cap ∧ cap ≤ maxLen ∧ cur.size = cap * 3 ∧ cur.toList.take (xs.length * 3) = xs.flatMap lc := by
    rcases ho with ⟨_, ⟨_, h, _⟩ | h⟩ | ⟨h, _⟩
    ·omega
    ·exact h
    ·omega
   have hcap : cap ≤ 9223372036854775807 := by unfold maxLen at g2; omega
   have hbb := hK.own b _ (List.mem_cons_of_mem _ (List.mem_cons_self ..))
   have hb2 := hK.own b2 _ (List.mem_cons_self ..)
   have hcl : cur.toList.length = cap * 3 := by rw [← g3]; exact Array.length_toList
   have htl : ((xs.drop i).flatMap lc).length = (xs.length - i) * 3 := by rw [flat_len hc, List.length_drop]
   have htail : ∀ k, k = (xs.length - i) * 3 → (cur.toList.drop (i * 3)).take k = (xs.drop i).flatMap lc := by
    intro k hk
    rw [← flat_drop hc, ← g4, List.drop_take, hk, Nat.sub_mul]
   have h1t : ∀ u ∈ (xs.drop i).flatMap lc, one u = true := fun u hu => by
    obtain ⟨y, hy, hu⟩ := List.mem_flatMap.1 hu
    exact List.all_eq_true.1 (h1s y (List.mem_of_mem_drop hy)) u hu
   have h1x' : ∀ u ∈ lc x, one u = true := fun u hu => List.all_eq_true.1 h1x u hu
   refine sk <| thn <| sq <| sq <| rg <| ?_
   refine vl (mI rfl) <| vl (mI rfl) <| vl (ad rfl rfl) <| vl mv <| vl (capS underlying26 rfl) <| vl (gt rfl rfl) <| nl <| thn <| ?_
   refine cdP rfl (fun hgr => ?_) fun hgr => ?_
   ·skip
    refine sq <| rg <| ?_
    refine vl mv <| vl (mI rfl) <| vl (slHiC (h := i) underlying26 Ty.s101 rfl rfl om) <| vl (mI rfl) <| vl (mI rfl) <| vl (ad rfl rfl) <| vl (mI rfl) <| vl (sb rfl rfl) <| ?_
    refine apZ (cs := (xs.take i).flatMap lc) (k := xs.length + 1 - i) hK underlying26 underlying3 Ty.i101 rfl rfl rfl rfl (show _ = _ from congrArg (Value.int .i64) (by omega : (xs.length : Int) + 1 - (i : Int) = ((xs.length + 1 - i : Nat) : Int))) (by rw [flat_len hc, List.length_take, Nat.min_eq_left hi]) (partB hbb (by rw [List.drop_zero, ← flat_take hc, ← g4, List.take_take, Nat.min_eq_left (Nat.mul_le_mul_right _ hi)])) om om om fun b' c' cu w k1 k2 k3 k4 hK => ?_
    refine vl asg <| nl <| thn <| sq <| rg <| vl mv <| vl (mI rfl) <| vl (slLoC (l := i) underlying26 Ty.s101 rfl rfl om om om) <| vl mv <| ?_
    have hxl : (lc x).length = Nat.min 1 (i + (xs.length + 1 - i) - i) * 3 := by
     have : Nat.min 1 (i + (xs.length + 1 - i) - i) = 1 := Nat.min_eq_left (by omega)
     rw [this]; rfl
    refine cpK (cs := lc x) hK underlying26 Ty.s101 rfl rfl hxl (partB (o := 0) (hK.own b2 _ (List.mem_cons_of_mem _ (List.mem_cons_self ..))) (List.take_of_length_le (Nat.le_refl _))) (by rw [k3, hc]; omega) h1x' fun w hK => ?_
    refine nl <| thn <| sq <| ?_
    refine rgs (fun w => K e w G L) (fun w => K _ w _ _) [U,U,U,U,U,U,U,U,U] 9 Ty.mixed rfl rfl (hK.drawn _) ?_
    intro w hK
    have hS : (fun w => K e w G L) w := K.sl hK
    refine xt (i := 0) rfl kr rfl rfl (fun w hK => mv) hS <| xt (i := 1) rfl kr rfl rfl (fun w hK => (mI rfl)) hS <| xt (i := 2) rfl kr rfl rfl (fun w hK => (mI rfl)) hS <| xt (i := 3) rfl kr rfl rfl (fun w hK => (ad rfl rfl)) hS <| xt (i := 4) rfl kr rfl rfl (fun w hK => (slLoC (l := i + 1) underlying26 Ty.s101 rfl rfl om om om)) hS <| xt (i := 5) rfl kr rfl rfl (fun w hK => mv) hS <| xt (i := 6) rfl kr rfl rfl (fun w hK => (mI rfl)) hS <| xt (i := 7) rfl kr rfl rfl (fun w hK => (slLoC (l := i) underlying26 Ty.s101 rfl rfl om om om)) hS <| ?_
    refine xe (i := 8) kr rfl rfl ?_
    have hrl : ((xs.drop i).flatMap lc).length = Nat.min (xs.length - i) (i + (xs.length + 1 - i) - (i + 1)) * 3 := by
     have : Nat.min (xs.length - i) (i + (xs.length + 1 - i) - (i + 1)) = xs.length - i := Nat.min_eq_left (by omega)
     rw [this]; exact htl
    refine cpK (cs := (xs.drop i).flatMap lc) hK underlying26 Ty.s101 rfl rfl hrl (partB (hK.own b _ (List.mem_cons_of_mem _ (List.mem_cons_of_mem _ (List.mem_cons_self ..)))) (htail _ htl)) (by rw [size_wr (by rw [k3, hc]; omega), k3, htl]; omega) h1t fun w hK => ?_
    refine xnk (K.sl hK) fun hS => ?_
    refine xd kr <| thn <| sq <| rg <| vl mv <| vl asg <| nl <| thn <| rt <| thr <| p1r (a := _) rfl <| ?_
    exact ⟨[(b', _)], insN hc hi (by omega) k2 k3 k4 _ (by omega), K.dropX (A := [_]) (K.dropX (A := [_]) hK)⟩
   ·skip
    refine sk <| thn <| sq <| rg <| ?_
    refine vl mv <| vl (mI rfl) <| vl (mI rfl) <| vl (ad rfl rfl) <| vl (slHiC (h := xs.length + 1) underlying26 Ty.s101 rfl rfl om) <| vl asg <| nl <| thn <| sq <| sq <| rg <| vl mv <| vl mv <| vl (mI rfl) <| vl (mI rfl) <| vl (ad rfl rfl) <| vl (slLoC (l := i + 1) underlying26 Ty.s101 rfl rfl om om om) <| ?_
    refine vl (exC rfl (run_ovl (tR := 4) func217 kr kr kr kr underlying26 Ty.i101 (K.neq hK) hb2 hbb (by rw [g3]; omega))) ?_
    refine vl (ntB rfl) <| nl <| thn <| ?_
    refine cdB rfl (fun hov => ?_) fun hov => ?_
    ·skip
     refine sq <| ?_
     refine rgs (fun w => K e w G L) (fun w => K _ w _ _) [U,U,U,U,U,U,U,U,U] 9 Ty.mixed rfl rfl (hK.drawn _) ?_
     intro w hK
     have hS : (fun w => K e w G L) w := K.sl hK
     refine xt (i := 0) rfl kr rfl rfl (fun w hK => mv) hS <| xt (i := 1) rfl kr rfl rfl (fun w hK => (mI rfl)) hS <| xt (i := 2) rfl kr rfl rfl (fun w hK => (mI rfl)) hS <| xt (i := 3) rfl kr rfl rfl (fun w hK => (ad rfl rfl)) hS <| xt (i := 4) rfl kr rfl rfl (fun w hK => (slLoC (l := i + 1) underlying26 Ty.s101 rfl rfl om om om)) hS <| xt (i := 5) rfl kr rfl rfl (fun w hK => mv) hS <| xt (i := 6) rfl kr rfl rfl (fun w hK => (mI rfl)) hS <| xt (i := 7) rfl kr rfl rfl (fun w hK => (slLoC (l := i) underlying26 Ty.s101 rfl rfl om om om)) hS <| ?_
     refine xe (i := 8) kr rfl rfl ?_
     replace hK := hK.swp
     have hrl : ((xs.drop i).flatMap lc).length = Nat.min (xs.length + 1 - i) (xs.length + 1 - (i + 1)) * 3 := by
      have : Nat.min (xs.length + 1 - i) (xs.length + 1 - (i + 1)) = xs.length - i := (Nat.min_eq_right (by omega)).trans (by omega)
      rw [this]; exact htl
     refine cpK (cs := (xs.drop i).flatMap lc) hK underlying26 Ty.s101 rfl rfl hrl (partB (hK.own b _ (List.mem_cons_self ..)) (htail _ htl)) (by rw [g3, htl]; omega) h1t fun w hK => ?_
     refine xnk (K.sl hK) fun hS => ?_
     refine xd kr <| thn <| sq <| rg <| vl mv <| vl (mI rfl) <| vl (slLoC (l := i) underlying26 Ty.s101 rfl rfl om om om) <| vl mv <| ?_
     have hxl : (lc x).length = Nat.min 1 (xs.length + 1 - i) * 3 := by
      have : Nat.min 1 (xs.length + 1 - i) = 1 := Nat.min_eq_left (by omega)
      rw [this]; rfl
     refine cpK (cs := lc x) hK underlying26 Ty.s101 rfl rfl hxl (partB (o := 0) (hK.own b2 _ (List.mem_cons_of_mem _ (List.mem_cons_self ..))) (List.take_of_length_le (Nat.le_refl _))) (by rw [size_wr (by rw [g3, htl]; omega), g3, hc]; omega) h1x' fun w hK => ?_
     refine nl <| thn <| sq <| rg <| vl mv <| vl asg <| nl <| thn <| rt <| thr <| p1r (a := _) rfl <| ?_
     exact ⟨[(b, _)], insR hc hi (by omega) g2 g3 g4 _ rfl, K.dropX (A := [_]) hK⟩
    ·simp at hov
end
section
variable {xs : List Rn} {x : Rn}
set_option maxHeartbeats 1000000 in
theorem insertN_c (hK : K e w G ((b2, row (rc x) 98) :: (A ++ L))) (ho : OSx 3 98 v xs.length (xs.flatMap rc) A) (h1x : (rc x).all one = true) (h1s : ∀ y ∈ xs, (rc y).all one = true) (hi : i ≤ xs.length) (hl : xs.length ≤ 1000000) :
  Ret prog 224 #[v, .int .i64 (i : Int), .slice (some ⟨b2, 0, none⟩) 1 1] w (fun r w' => ∃ A', OS 3 98 r (xs.length + 1) ((xs.take i ++ x :: xs.drop i).flatMap rc) A' ∧ K e w' G (A' ++ L)) := by
 have hc : ∀ x, (rc x).length = 3 := fun _ => rfl
 have hs := ho.slw
 have hsl := hs.len
 have hvl : SlLen (.slice (some ⟨b2, 0, none⟩) 1 1) 1 := ⟨_, _, rfl⟩
 refine enter1 (args := [v, .int .i64 (i : Int), .slice (some ⟨b2, 0, none⟩) 1 1]) func224 rfl rfl rfl rfl ?_
 refine sq <| rg <| ?_
 refine vl asg <| nl <| thn <| sq <| rg <| vl mv <| vl (mI rfl) <| vl (slLo (l := i) underlying25 Ty.s98 rfl hs rfl hi) <| nl <| thn <| sq <| rg <| vl mv <| vl (ln underlying25 rfl (by assumption)) <| vl (aI rfl) <| nl <| thn <| ?_
 refine sq <| sq <| rg <| vl (mI rfl) <| vl (eq rfl rfl) <| nl <| thn <| ?_
 refine cdP rfl (fun h0 => ?_) fun h0 => ?_
 ·exfalso; omega
 ·refine sk <| thn <| sq <| rg <| ?_
  refine vl mv <| vl (ln underlying25 rfl hs.len) <| vl (aI rfl) <| nl <| thn <| sq <| sq <| rg <| vl (mI rfl) <| vl (mI rfl) <| vl (eq rfl rfl) <| nl <| thn <| ?_
  refine cdP rfl (fun hin => ?_) fun hin => ?_
  ·have hin' : i = xs.length := by omega
   refine sq <| rg <| ?_
   refine vl mv <| vl mv <| ?_
   refine apE1x (c := rc) (k := x) (fun _ => rfl) h1x hK underlying25 Ty.i98 rfl rfl rfl ho rfl om fun v1 A1 w ho hK => ?_
   have ho2 : OS 3 98 v1 (xs.length + 1) ((xs.take i ++ x :: xs.drop i).flatMap rc) A1 := by
    rw [hin', List.take_length, List.drop_length]
    simpa using ho
   refine vl asg <| nl <| thn <| rt <| thr <| p1r (a := _) rfl <| ?_
   exact ⟨A1, ho2, hK⟩
  ·have hil : i < xs.length := by omega
   obtain ⟨b, cap, cur, rfl, rfl, g1, g2, g3, g4⟩ : ∃ b cap cur, v = .slice (some ⟨b, 0, none⟩) xs.length cap ∧ A = [(b, .cells cur 98 (0, 0))] ∧ xs.length ≤ cap ∧ cap ≤ maxLen ∧ cur.size = cap * 3 ∧ cur.toList.take (xs.length * 3) = xs.flatMap rc := by
    rcases ho with ⟨_, ⟨_, h, _⟩ | h⟩ | ⟨h, _⟩
    ·omega
    ·exact h
    ·omega
   have hcap : cap ≤ 9223372036854775807 := by unfold maxLen at g2; omega
   have hbb := hK.own b _ (List.mem_cons_of_mem _ (List.mem_cons_self ..))
   have hb2 := hK.own b2 _ (List.mem_cons_self ..)
   have hcl : cur.toList.length = cap * 3 := by rw [← g3]; exact Array.length_toList
   have htl : ((xs.drop i).flatMap rc).length = (xs.length - i) * 3 := by rw [flat_len hc, List.length_drop]
   have htail : ∀ k, k = (xs.length - i) * 3 → (cur.toList.drop (i * 3)).take k = (xs.drop i).flatMap rc := by
    intro k hk
    rw [← flat_drop hc, ← g4, List.drop_take, hk, Nat.sub_mul]
   have h1t : ∀ u ∈ (xs.drop i).flatMap rc, one u = true := fun u hu => by
    obtain ⟨y, hy, hu⟩ := List.mem_flatMap.1 hu
    exact List.all_eq_true.1 (h1s y (List.mem_of_mem_drop hy)) u hu
   have h1x' : ∀ u ∈ rc x, one u = true := fun u hu => List.all_eq_true.1 h1x u hu
   refine sk <| thn <| sq <| sq <| rg <| ?_
   refine vl (mI rfl) <| vl (mI rfl) <| vl (ad rfl rfl) <| vl mv <| vl (capS underlying25 rfl) <| vl (gt rfl rfl) <| nl <| thn <| ?_
   refine cdP rfl (fun hgr => ?_) fun hgr => ?_
   ·skip
    refine sq <| rg <| ?_
    refine vl mv <| vl (mI rfl) <| vl (slHiC (h := i) underlying25 Ty.s98 rfl rfl om) <| vl (mI rfl) <| vl (mI rfl) <| vl (ad rfl rfl) <| vl (mI rfl) <| vl (sb rfl rfl) <| ?_
    refine apZ (cs := (xs.take i).flatMap rc) (k := xs.length + 1 - i) hK underlying25 underlying3 Ty.i98 rfl rfl rfl rfl (show _ = _ from congrArg (Value.int .i64) (by omega : (xs.length : Int) + 1 - (i : Int) = ((xs.length + 1 - i : Nat) : Int))) (by rw [flat_len hc, List.length_take, Nat.min_eq_left hi]) (partB hbb (by rw [List.drop_zero, ← flat_take hc, ← g4, List.take_take, Nat.min_eq_left (Nat.mul_le_mul_right _ hi)])) om om om fun b' c' cu w k1 k2 k3 k4 hK => ?_
    refine vl asg <| nl <| thn <| sq <| rg <| vl mv <| vl (mI rfl) <| vl (slLoC (l := i) underlying25 Ty.s98 rfl rfl om om om) <| vl mv <| ?_
    have hxl : (rc x).length = Nat.min 1 (i + (xs.length + 1 - i) - i) * 3 := by
     have : Nat.min 1 (i + (xs.length + 1 - i) - i) = 1 := Nat.min_eq_left (by omega)
     rw [this]; rfl
    refine cpK (cs := rc x) hK underlying25 Ty.s98 rfl rfl hxl (partB (o := 0) (hK.own b2 _ (List.mem_cons_of_mem _ (List.mem_cons_self ..))) (List.take_of_length_le (Nat.le_refl _))) (by rw [k3, hc]; omega) h1x' fun w hK => ?_
    refine nl <| thn <| sq <| ?_
    refine rgs (fun w => K e w G L) (fun w => K _ w _ _) [U,U,U,U,U,U,U,U,U] 9 Ty.mixed rfl rfl (hK.drawn _) ?_
    intro w hK
    have hS : (fun w => K e w G L) w := K.sl hK
    refine xt (i := 0) rfl kr rfl rfl (fun w hK => mv) hS <| xt (i := 1) rfl kr rfl rfl (fun w hK => (mI rfl)) hS <| xt (i := 2) rfl kr rfl rfl (fun w hK => (mI rfl)) hS <| xt (i := 3) rfl kr rfl rfl (fun w hK => (ad rfl rfl)) hS <| xt (i := 4) rfl kr rfl rfl (fun w hK => (slLoC (l := i + 1) underlying25 Ty.s98 rfl rfl om om om)) hS <| xt (i := 5) rfl kr rfl rfl (fun w hK => mv) hS <| xt (i := 6) rfl kr rfl rfl (fun w hK => (mI rfl)) hS <| xt (i := 7) rfl kr rfl rfl (fun w hK => (slLoC (l := i) underlying25 Ty.s98 rfl rfl om om om)) hS <| ?_
    refine xe (i := 8) kr rfl rfl ?_
    have hrl : ((xs.drop i).flatMap rc).length = Nat.min (xs.length - i) (i + (xs.length + 1 - i) - (i + 1)) * 3 := by
     have : Nat.min (xs.length - i) (i + (xs.length + 1 - i) - (i + 1)) = xs.length - i := Nat.min_eq_left (by omega)
     rw [this]; exact htl
    refine cpK (cs := (xs.drop i).flatMap rc) hK underlying25 Ty.s98 rfl rfl hrl (partB (hK.own b _ (List.mem_cons_of_mem _ (List.mem_cons_of_mem _ (List.mem_cons_self ..)))) (htail _ htl)) (by rw [size_wr (by rw [k3, hc]; omega), k3, htl]; omega) h1t fun w hK => ?_
    refine xnk (K.sl hK) fun hS => ?_
    refine xd kr <| thn <| sq <| rg <| vl mv <| vl asg <| nl <| thn <| rt <| thr <| p1r (a := _) rfl <| ?_
    exact ⟨[(b', _)], insN hc hi (by omega) k2 k3 k4 _ (by omega), K.dropX (A := [_]) (K.dropX (A := [_]) hK)⟩
   ·skip
    refine sk <| thn <| sq <| rg <| ?_
    refine vl mv <| vl (mI rfl) <| vl (mI rfl) <| vl (ad rfl rfl) <| vl (slHiC (h := xs.length + 1) underlying25 Ty.s98 rfl rfl om) <| vl asg <| nl <| thn <| sq <| sq <| rg <| vl mv <| vl mv <| vl (mI rfl) <| vl (mI rfl) <| vl (ad rfl rfl) <| vl (slLoC (l := i + 1) underlying25 Ty.s98 rfl rfl om om om) <| ?_
    refine vl (exC rfl (run_ovl (tR := 4) func230 kr kr kr kr underlying25 Ty.i98 (K.neq hK) hb2 hbb (by rw [g3]; omega))) ?_
    refine vl (ntB rfl) <| nl <| thn <| ?_
    refine cdB rfl (fun hov => ?_) fun hov => ?_
    ·skip
     refine sq <| ?_
     refine rgs (fun w => K e w G L) (fun w => K _ w _ _) [U,U,U,U,U,U,U,U,U] 9 Ty.mixed rfl rfl (hK.drawn _) ?_
     intro w hK
     have hS : (fun w => K e w G L) w := K.sl hK
     refine xt (i := 0) rfl kr rfl rfl (fun w hK => mv) hS <| xt (i := 1) rfl kr rfl rfl (fun w hK => (mI rfl)) hS <| xt (i := 2) rfl kr rfl rfl (fun w hK => (mI rfl)) hS <| xt (i := 3) rfl kr rfl rfl (fun w hK => (ad rfl rfl)) hS <| xt (i := 4) rfl kr rfl rfl (fun w hK => (slLoC (l := i + 1) underlying25 Ty.s98 rfl rfl om om om)) hS <| xt (i := 5) rfl kr rfl rfl (fun w hK => mv) hS <| xt (i := 6) rfl kr rfl rfl (fun w hK => (mI rfl)) hS <| xt (i := 7) rfl kr rfl rfl (fun w hK => (slLoC (l := i) underlying25 Ty.s98 rfl rfl om om om)) hS <| ?_
     refine xe (i := 8) kr rfl rfl ?_
     replace hK := hK.swp
     have hrl : ((xs.drop i).flatMap rc).length = Nat.min (xs.length + 1 - i) (xs.length + 1 - (i + 1)) * 3 := by
      have : Nat.min (xs.length + 1 - i) (xs.length + 1 - (i + 1)) = xs.length - i := (Nat.min_eq_right (by omega)).trans (by omega)
      rw [this]; exact htl
     refine cpK (cs := (xs.drop i).flatMap rc) hK underlying25 Ty.s98 rfl rfl hrl (partB (hK.own b _ (List.mem_cons_self ..)) (htail _ htl)) (by rw [g3, htl]; omega) h1t fun w hK => ?_
     refine xnk (K.sl hK) fun hS => ?_
     refine xd kr <| thn <| sq <| rg <| vl mv <| vl (mI rfl) <| vl (slLoC (l := i) underlying25 Ty.s98 rfl rfl om om om) <| vl mv <| ?_
     have hxl : (rc x).length = Nat.min 1 (xs.length + 1 - i) * 3 := by
      have : Nat.min 1 (xs.length + 1 - i) = 1 := Nat.min_eq_left (by omega)
      rw [this]; rfl
     refine cpK (cs := rc x) hK underlying25 Ty.s98 rfl rfl hxl (partB (o := 0) (hK.own b2 _ (List.mem_cons_of_mem _ (List.mem_cons_self ..))) (List.take_of_length_le (Nat.le_refl _))) (by rw [size_wr (by rw [g3, htl]; omega), g3, hc]; omega) h1x' fun w hK => ?_
     refine nl <| thn <| sq <| rg <| vl mv <| vl asg <| nl <| thn <| rt <| thr <| p1r (a := _) rfl <| ?_
     exact ⟨[(b, _)], insR hc hi (by omega) g2 g3 g4 _ rfl, K.dropX (A := [_]) hK⟩
    ·simp at hov
end
end
end Go.Proofs.YtmgggljicpmndaaGreatDoor
