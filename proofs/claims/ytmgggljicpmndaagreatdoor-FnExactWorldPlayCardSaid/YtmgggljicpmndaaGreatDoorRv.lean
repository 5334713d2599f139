/- Contracts of the specification's renewal of leases. The program's operations on leases. The program's leases renewed; copies of worlds. The program's rings that a node leaves or joins. The steps of the program's rings. Conditions: those that each row states. -/
import Derived.Test.YtmgggljicpmndaaGreatDoorLe
import Derived.Test.YtmgggljicpmndaaGreatDoorLd
import Derived.Test.YtmgggljicpmndaaGreatDoorWm2
namespace Go.Proofs.YtmgggljicpmndaaGreatDoor
open Go Go.Ro Tryz
section
variable {e w : World} {G : View} {L A : Own} {v u : Value} {ls ms : List Ls} {ow now un : Int} {i j : Nat} {x : Ls}
theorem specLeaseRenew_c (hK : K e w G L) (hv : LeaS G v ls) : Ret prog 103 #[v, .int .i64 ow, .int .i64 now, .int .i64 un] w (fun r w' => ∃ G' u n, VLe G G' ∧ r = .tuple #[u, .int .i64 n] ∧ (¬ (LsOk ls ∧ Pt ow ∧ Tm now ∧ Tm un) → n = -1) ∧ ((LsOk ls ∧ Pt ow ∧ Tm now ∧ Tm un) → n = (renewN ls ow now un : Int) ∧ LeaS G' u (renewL ls ow now un)) ∧ K e w' G' L) := by
 refine enter2 (args := [v, .int .i64 ow, .int .i64 now, .int .i64 un]) func103 rfl rfl rfl rfl ?_
 refine sq <| rg <| ?_
 refine vl asg <| vl (aI rfl) <| nl <| thn <| sq <| sq <| rg <| vl mv <| ?_
 refine cl call73 rfl (specLeasesValid_c hK (by assumption)) ?_
 rintro _ w ⟨rfl, hK⟩
 refine vl (ntB rfl) <| vl (mB rfl) <| ?_
 refine spl (t := 16) rfl (fun h1 => ?_) fun h1 => ?_
 ·have h1' := not_dec (Eq.mp (Bool.not_eq_true' _) h1)
  refine gn rfl <| gn rfl <| gn rfl <| vl (pk rfl) <| vl (mB rfl) <| gn rfl <| gn rfl <| gn rfl <| vl (pk rfl) <| vl (mB rfl) <| gn rfl <| gn rfl <| gn rfl <| vl (pk rfl) <| nl <| thn <| ?_
  refine cdt rfl ?_
  refine sq <| rg <| ?_
  refine bs0 hK underlying26 Ty.i101 ?_
  intro b31 w hK
  refine vl asg <| vl (aI rfl) <| nl <| thn <| rt <| thr <| p2r (a := _) (b := .int _ _) rfl rfl <| ?_
  exact ⟨G, _, _, VLe.refl _, rfl, fun _ => rfl, fun h => absurd h.1 h1', hK.drop1⟩
 ·have h1' := of_dec (Eq.mp (Bool.not_eq_false' _) h1)
  have hlen := h1'.1.2
  refine gy rfl <| vl (mI rfl) <| gy rfl <| ?_
  refine cl call99 rfl (l1Point_c (C := fun w => K _ w _ _) hK) ?_
  rintro _ w ⟨rfl, hK⟩
  refine gy rfl <| vl (nt rfl) <| vl (pk rfl) <| vl (mB rfl) <| ?_
  refine splP (t := 21) rfl (fun h2 => ?_) fun h2 => ?_
  ·refine gn rfl <| gn rfl <| gn rfl <| vl (pk rfl) <| vl (mB rfl) <| gn rfl <| gn rfl <| gn rfl <| vl (pk rfl) <| nl <| thn <| ?_
   refine cdt rfl ?_
   refine sq <| rg <| ?_
   refine bs0 hK underlying26 Ty.i101 ?_
   intro b31 w hK
   refine vl asg <| vl (aI rfl) <| nl <| thn <| rt <| thr <| p2r (a := _) (b := .int _ _) rfl rfl <| ?_
   exact ⟨G, _, _, VLe.refl _, rfl, fun _ => rfl, fun h => absurd h.2.1 h2, hK.drop1⟩
  ·refine gy rfl <| vl (mI rfl) <| gy rfl <| ?_
   refine cl call71 rfl (l12Time_c (C := fun w => K _ w _ _) hK) ?_
   rintro _ w ⟨rfl, hK⟩
   refine gy rfl <| vl (nt rfl) <| vl (pk rfl) <| vl (mB rfl) <| ?_
   refine splP (t := 26) rfl (fun h3 => ?_) fun h3 => ?_
   ·refine gn rfl <| gn rfl <| gn rfl <| vl (pk rfl) <| nl <| thn <| ?_
    refine cdt rfl ?_
    refine sq <| rg <| ?_
    refine bs0 hK underlying26 Ty.i101 ?_
    intro b31 w hK
    refine vl asg <| vl (aI rfl) <| nl <| thn <| rt <| thr <| p2r (a := _) (b := .int _ _) rfl rfl <| ?_
    exact ⟨G, _, _, VLe.refl _, rfl, fun _ => rfl, fun h => absurd h.2.2.1 h3, hK.drop1⟩
   ·refine gy rfl <| vl (mI rfl) <| gy rfl <| ?_
    refine cl call71 rfl (l12Time_c (C := fun w => K _ w _ _) hK) ?_
    rintro _ w ⟨rfl, hK⟩
    refine gy rfl <| vl (nt rfl) <| vl (pk rfl) <| nl <| thn <| ?_
    refine cdP rfl (fun h4 => ?_) fun h4 => ?_
    ·refine sq <| rg <| ?_
     refine bs0 hK underlying26 Ty.i101 ?_
     intro b31 w hK
     refine vl asg <| vl (aI rfl) <| nl <| thn <| rt <| thr <| p2r (a := _) (b := .int _ _) rfl rfl <| ?_
     exact ⟨G, _, _, VLe.refl _, rfl, fun _ => rfl, fun h => absurd h.2.2.2 h4, hK.drop1⟩
    ·have hok : LsOk ls ∧ Pt ow ∧ Tm now ∧ Tm un := ⟨h1', Decidable.not_not.1 h2, Decidable.not_not.1 h3, Decidable.not_not.1 h4⟩
     refine sk <| thn <| sq <| rg <| ?_
     refine bs0 hK underlying26 Ty.i101 ?_
     intro b32 w hK
     refine vl mv <| ?_
     refine apE (A := [(b32, row [] 101)]) (xs := []) (c := lc) (fun _ => rfl) rfl (fun _ => rfl) hK underlying26 Ty.i101 rfl rfl rfl OS.none rfl hv (by simp; omega) fun v' A' w ho hK => ?_
     simp only [List.nil_append] at ho
     refine vl asg <| nl <| thn <| sq <| rg <| vl (aI rfl) <| nl <| thn <| sq <| sq <| rg <| vl (aI rfl) <| nl <| thn <| bk <| ?_
     refine lp (σ := Nat × Own) (fun s => [(1, .int .i64 ow), (2, .int .i64 now), (3, .int .i64 un), (10, v'), (11, .int .i64 ((ls.take s.1).countP (rnw ow now un) : Int)), (12, .int .i64 (s.1 : Int))]) (fun s w => s.1 ≤ ls.length ∧ OS 3 101 v' ls.length (((ls.take s.1).map (rn1 ow now un) ++ ls.drop s.1).flatMap lc) s.2 ∧ K e w G (s.2 ++ L)) (fun s => ls.length - s.1) (0, A') ⟨rfl, rfl, rfl, rfl, rfl, rfl, trivial⟩ ⟨Nat.zero_le _, ho, hK⟩ ?_
     rintro ⟨i, A⟩ g w ⟨hi, ho, hK⟩
     simp only at hi ho hK
     refine sq <| sq <| rg <| ?_
     refine vl (mI rfl) <| vl mv <| vl (ln underlying26 rfl ho.len) <| vl (lt rfl rfl) <| nl <| thn <| ?_
     refine cdP rfl (fun hc => ?_) fun hc => ?_
     ·have hi' : i < ls.length := by simp only at hc; omega
      have hcn : (ls.take i).countP (rnw ow now un) ≤ i := Nat.le_trans List.countP_le_length (by simp; omega)
      refine sk <| thn <| sq <| bk <| sq <| rg <| ?_
      refine vl mv <| vl (mI rfl) <| vl (ixn underlying26 Ty.s101 rfl ho.slw rfl hi') <| vl (fe underlying101 rfl Ty.z3 rfl ho.slw om) <| vl (ldC Ty.o3 rfl (OS.fcell (c := lc) (fun _ => rfl) ho hK (rn_get hi') (j := 1) rfl)) <| vl (mI rfl) <| vl (eq rfl rfl) <| vl (mB rfl) <| ?_
      refine splP (t := 48) rfl (fun h5 => ?_) fun h5 => ?_
      ·refine gy rfl <| vl mv <| gy rfl <| vl (mI rfl) <| gy rfl <| vl (ixn underlying26 Ty.s101 rfl ho.slw rfl hi') <| gy rfl <| vl (fe underlying101 rfl Ty.z3 rfl ho.slw om) <| gy rfl <| vl (ldC Ty.o3 rfl (OS.fcell (c := lc) (fun _ => rfl) ho hK (rn_get hi') (j := 2) rfl)) <| gy rfl <| vl (mI rfl) <| gy rfl <| vl (ge rfl rfl) <| vl (pk rfl) <| vl (mB rfl) <| ?_
       refine splP (t := 57) rfl (fun h6 => ?_) fun h6 => ?_
       ·refine gy rfl <| vl mv <| gy rfl <| vl (mI rfl) <| gy rfl <| vl (ixn underlying26 Ty.s101 rfl ho.slw rfl hi') <| gy rfl <| vl (fe underlying101 rfl Ty.z3 rfl ho.slw om) <| gy rfl <| vl (ldC Ty.o3 rfl (OS.fcell (c := lc) (fun _ => rfl) ho hK (rn_get hi') (j := 2) rfl)) <| gy rfl <| vl (mI rfl) <| gy rfl <| vl (lt rfl rfl) <| vl (pk rfl) <| nl <| thn <| ?_
        refine cdP rfl (fun h7 => ?_) fun h7 => ?_
        ·have hr : rnw ow now un ls[i] = true := decide_eq_true ⟨h5, by omega, h7⟩
         have h1r : rn1 ow now un ls[i] = (ls[i].1, ls[i].2.1, un) := by unfold rn1; rw [hr]; rfl
         refine sq <| rg <| ?_
         refine vl mv <| vl (mI rfl) <| vl (mI rfl) <| vl (ixn underlying26 Ty.s101 rfl ho.slw rfl hi') <| vl (fe underlying101 rfl Ty.z3 rfl ho.slw om) <| ?_
         refine osSetC (i := i * 3 + 2) (u := .int .i64 un) hK ho om Ty.i3 rfl rfl rfl rfl fun A2 w ho2 hK => ?_
         rw [flat_set (c := lc) (fun _ => rfl) _ i 2 ls[i] (ls[i].1, ls[i].2.1, un) (.int .i64 un) (rn_get hi') (by omega) rfl, ← h1r, rn_step hi'] at ho2
         refine nl <| thn <| rg <| vl (mI rfl) <| vl (ad rfl rfl) <| vl (aI rfl) <| nl <| bkn <| thn <| rg <| vl (mI rfl) <| vl (ad rfl rfl) <| vl (aI rfl) <| nl <| thn <| ?_
         exact ⟨(i + 1, A2), ⟨rfl, rfl, rfl, rfl, congrArg (Value.int .i64) (by simp only; rw [rn_count hi', hr]; simp), rfl, trivial⟩, ⟨hi', ho2, hK⟩, by simp only; omega⟩
        ·refine sk <| bkn <| thn <| rg <| ?_
         refine vl (mI rfl) <| vl (ad rfl rfl) <| vl (aI rfl) <| nl <| thn <| ?_
         have hr : rnw ow now un ls[i] = false := decide_eq_false fun h => h7 h.2.2
         have h1r : rn1 ow now un ls[i] = ls[i] := by unfold rn1; rw [hr]; rfl
         exact ⟨(i + 1, A), ⟨rfl, rfl, rfl, rfl, congrArg (Value.int .i64) (by simp only; rw [rn_count hi', hr]; rfl), rfl, trivial⟩, ⟨hi', by
          have := rn_step (ow := ow) (now := now) (un := un) hi'
          rw [h1r] at this
          simp only
          rw [← this, rn_same hi']; exact ho, hK⟩, by simp only; omega⟩
       ·refine gn rfl <| gn rfl <| gn rfl <| gn rfl <| gn rfl <| gn rfl <| gn rfl <| vl (pk rfl) <| nl <| thn <| ?_
        refine cdf rfl ?_
        refine sk <| bkn <| thn <| rg <| ?_
        refine vl (mI rfl) <| vl (ad rfl rfl) <| vl (aI rfl) <| nl <| thn <| ?_
        have hr : rnw ow now un ls[i] = false := decide_eq_false fun h => h6 (by have := h.2.1; omega)
        have h1r : rn1 ow now un ls[i] = ls[i] := by unfold rn1; rw [hr]; rfl
        exact ⟨(i + 1, A), ⟨rfl, rfl, rfl, rfl, congrArg (Value.int .i64) (by simp only; rw [rn_count hi', hr]; rfl), rfl, trivial⟩, ⟨hi', by
         have := rn_step (ow := ow) (now := now) (un := un) hi'
         rw [h1r] at this
         simp only
         rw [← this, rn_same hi']; exact ho, hK⟩, by simp only; omega⟩
      ·refine gn rfl <| gn rfl <| gn rfl <| gn rfl <| gn rfl <| gn rfl <| gn rfl <| vl (pk rfl) <| vl (mB rfl) <| gn rfl <| gn rfl <| gn rfl <| gn rfl <| gn rfl <| gn rfl <| gn rfl <| vl (pk rfl) <| nl <| thn <| ?_
       refine cdf rfl ?_
       refine sk <| bkn <| thn <| rg <| ?_
       refine vl (mI rfl) <| vl (ad rfl rfl) <| vl (aI rfl) <| nl <| thn <| ?_
       have hr : rnw ow now un ls[i] = false := decide_eq_false fun h => h5 h.1
       have h1r : rn1 ow now un ls[i] = ls[i] := by unfold rn1; rw [hr]; rfl
       exact ⟨(i + 1, A), ⟨rfl, rfl, rfl, rfl, congrArg (Value.int .i64) (by simp only; rw [rn_count hi', hr]; rfl), rfl, trivial⟩, ⟨hi', by
        have := rn_step (ow := ow) (now := now) (un := un) hi'
        rw [h1r] at this
        simp only
        rw [← this, rn_same hi']; exact ho, hK⟩, by simp only; omega⟩
     ·have hi' : i = ls.length := by simp only at hc; omega
      subst hi'
      rw [List.drop_length, List.append_nil, List.take_length] at ho
      rw [List.take_length]
      refine ex <| the <| the <| bkh <| thn <| sq <| rg <| ?_
      refine vl mv <| vl (mI rfl) <| vl asg <| vl (aI rfl) <| nl <| thn <| rt <| p2r (a := _) (b := .int _ _) rfl rfl <| ?_
      obtain ⟨G2, hG2, hx, hK⟩ := K.pubE (c := lc) (xs := renewL ls ow now un) (fun _ => rfl) hK (by unfold renewL; rw [List.length_map]; exact ho)
      exact ⟨G2, _, _, hG2, rfl, fun h => absurd hok h, fun _ => ⟨rfl, hx⟩, hK⟩
end
open Go Go.Ro Tryz
section
variable {e w : World} {G : View} {L A : Own} {v u : Value} {ls ms : List Ls} {k fr at' to un key now ow : Int} {i : Nat} {a0 a1 : Addr} {o : Option (List Ls)} {ok : Prop}
theorem isR_same (hK : K e w G L) (a : Addr) : Ret prog 194 #[.iface 228 (.pointer (some a)), .iface 228 (.pointer (some a))] w (fun r w' => r = .bool true ∧ K e w' G L) :=
 Calls.mono (is_same a w) fun _ _ ⟨he, hw⟩ => ⟨_, he, rfl, hw ▸ hK⟩
theorem isR_nil (hK : K e w G L) (a : Addr) : Ret prog 194 #[.nilIface, .iface 228 (.pointer (some a))] w (fun r w' => r = .bool false ∧ K e w' G L) :=
 Calls.mono (is_nil a w) fun _ _ ⟨he, hw⟩ => ⟨_, he, rfl, hw ▸ hK⟩
theorem isR_other (hK : K e w G L) {a b : Addr} (hne : a ≠ b) (ha : ∃ c t, G a.block = some (.cells c t (0, 0))) (hb : ∃ c t, G b.block = some (.cells c t (0, 0))) :
  Ret prog 194 #[.iface 228 (.pointer (some a)), .iface 228 (.pointer (some b))] w (fun r w' => r = .bool false ∧ K e w' G L) := by
 obtain ⟨ca, ta, ha⟩ := ha
 obtain ⟨cb, tb, hb⟩ := hb
 exact Calls.mono (is_other a b ca cb ta tb w hne (hK.view _ _ ha) (hK.view _ _ hb)) fun _ _ ⟨he, hw⟩ => ⟨_, he, rfl, hw ▸ hK⟩
theorem granted0_c (hK : K e w G L) (hE : ErrS 228 0 1 G a0 a1) : Ret prog 158 #[v, u, .iface 228 (.pointer (some a0))] w (fun r w' => r = .tuple #[.slice none 0 0, .bool false] ∧ K e w' G L) := by
 refine enter2 (args := [v, u, .iface 228 (.pointer (some a0))]) func158 rfl rfl rfl rfl ?_
 refine sq <| rg <| ?_
 refine vl asg <| vl (aB rfl) <| nl <| thn <| sq <| bk <| sq <| rg <| vl mv <| vl (ldV hK Ty.o160 rfl hE.1) <| ?_
 refine cl call194 rfl (isR_same hK a0) ?_
 rintro _ w ⟨rfl, hK⟩
 refine vl (aB rfl) <| nl <| thn <| ?_
 refine cdB rfl (fun h1 => ?_) fun h1 => ?_
 ·refine sq <| rg <| ?_
  refine vl asg <| vl (aB rfl) <| nl <| thn <| rt <| bkr <| thr <| p2r (a := _) (b := .bool _) rfl rfl <| ?_
  exact ⟨rfl, hK⟩
 ·cases h1
theorem granted2_c (hK : K e w G L) (hE : ErrS 228 0 1 G a0 a1) : Ret prog 158 #[v, u, .nilIface] w (fun r w' => r = .tuple #[u, .bool true] ∧ K e w' G L) := by
 refine enter2 (args := [v, u, .nilIface]) func158 rfl rfl rfl rfl ?_
 refine sq <| rg <| ?_
 refine vl asg <| vl (aB rfl) <| nl <| thn <| sq <| bk <| sq <| rg <| vl mv <| vl (ldV hK Ty.o160 rfl hE.1) <| ?_
 refine cl call194 rfl (isR_nil hK a0) ?_
 rintro _ w ⟨rfl, hK⟩
 refine vl (aB rfl) <| nl <| thn <| ?_
 refine cdB rfl (fun h1 => ?_) fun h1 => ?_
 ·cases h1
 ·refine sq <| rg <| ?_
  refine vl mv <| vl (ldV hK Ty.o160 rfl hE.2.1) <| ?_
  refine cl call194 rfl (isR_nil hK a1) ?_
  rintro _ w ⟨rfl, hK⟩
  refine vl (aB rfl) <| nl <| thn <| ?_
  refine cdB rfl (fun h2 => ?_) fun h2 => ?_
  ·cases h2
  ·refine sk <| bkn <| thn <| sq <| rg <| ?_
   refine vl mv <| vl asg <| vl (aB rfl) <| nl <| thn <| rt <| p2r (a := _) (b := .bool _) rfl rfl <| ?_
   exact ⟨rfl, hK⟩
theorem hand1_c (hK : K e w G L) {x : Ls} (hx : Pt x.1) (hk : Pt k) : Ret prog 192 #[.agg (lc x).toArray, .int .i64 k] w (fun r w' => (∃ m, r = .int .i64 m ∧ (m < 0 ↔ x.1 < k) ∧ (m = 0 ↔ x.1 = k)) ∧ K e w' G L) := by
 have h1 := hx.1
 have h2 := hx.2
 have h3 := hk.1
 have h4 := hk.2
 refine enter1 (args := [.agg (lc x).toArray, .int .i64 k]) func192 rfl rfl rfl rfl ?_
 refine sq <| rg <| ?_
 refine bx hK rfl rfl ?_
 intro b2 w hK
 refine vl (aI rfl) <| nl <| thn <| sq <| rg <| vl (fa underlying101 rfl Ty.z3 rfl) <| vl (ldO hK Ty.o3 0 rfl rfl rfl) <| vl (mI rfl) <| vl (sb rfl rfl) <| vl (aI rfl) <| nl <| thn <| rt <| p1r (a := .int _ _) rfl <| ?_
 exact ⟨⟨_, rfl, by omega, by omega⟩, hK.drop1⟩
theorem lc_len (x : Ls) : (lc x).length = 3 := rfl
theorem pt3 {a b c : Int} (h : ∀ x ∈ [a, b, c], Pt x) : Pt a ∧ Pt b ∧ Pt c := ⟨h a (by simp), h b (by simp), h c (by simp)⟩
theorem mk3 {p : Int → Prop} {a b c : Int} (h : p a ∧ p b ∧ p c) : ∀ x ∈ [a, b, c], p x := by
 intro x hx
 simp only [List.mem_cons, List.not_mem_nil, or_false] at hx
 rcases hx with rfl | rfl | rfl
 ·exact h.1
 ·exact h.2.1
 ·exact h.2.2
theorem mk2 {p : Int → Prop} {a b : Int} (h : p a ∧ p b) : ∀ x ∈ [a, b], p x := by
 intro x hx
 simp only [List.mem_cons, List.not_mem_nil, or_false] at hx
 rcases hx with rfl | rfl
 ·exact h.1
 ·exact h.2
theorem takeL_1 {ls : List Ls} (h : now ≤ (lsAt ls key).2.2) : takeL ls key to now un = none := if_pos h
theorem takeL_2 {ls : List Ls} (h : ¬ now ≤ (lsAt ls key).2.2) : takeL ls key to now un = some (ls.set (lAt ls key) ((lsAt ls key).1, to, un)) := if_neg h
theorem tup2 {a b c d : Value} (h : Value.tuple #[a, b] = .tuple #[c, d]) : a = c ∧ b = d := by
 simp only [Value.tuple.injEq, Array.mk.injEq, List.cons.injEq, and_true] at h; exact h
end
open Go Go.Ro Tryz
section
variable {e w : World} {G : View} {L A : Own} {v u : Value} {ls ms : List Ls} {k fr at' to un key now ow : Int} {i : Nat} {a0 a1 : Addr}
theorem at_flat {xs : List Ls} {i : Nat} {x : Ls} (h : xs[i]? = some x) : ∀ (j : Nat) (c : Value), (lc x)[j]? = some c → (xs.flatMap lc)[i * 3 + j]? = some c := fun j c hj => by
 rw [flat_get' lc_len xs i j x h (by have := (List.getElem?_eq_some_iff.1 hj).1; rwa [lc_len] at this)]; exact hj
end
open Go Go.Ro Tryz
section
variable {e w : World} {G : View} {L A : Own} {v u : Value} {xs ys : List Int} {rs qs : List Rn} {a b k id other at' : Int} {i sb bk : Nat}
theorem at_flatR {xs : List Rn} {i : Nat} {x : Rn} (h : xs[i]? = some x) : ∀ (j : Nat) (c : Value), (rc x)[j]? = some c → (xs.flatMap rc)[i * 3 + j]? = some c := fun j c hj => by
 rw [flat_get' rc_len xs i j x h (by have := (List.getElem?_eq_some_iff.1 hj).1; rwa [rc_len] at this)]; exact hj
set_option maxHeartbeats 1000000 in
theorem deleteFuncN_c {F : FuncId} {cap : List Value} {q : Rn → Bool} (hf : ∀ args w, (callFunc F args).run prog w = .ok (.enter F args) w) (hK : K e w G (A ++ L)) (hO : OR G 98 v rs A) (hl : rs.length ≤ 1000000)
  (hp : ∀ (G : View) x w, Ro.one x.2.2.1 = true → K e w G L → Ret prog F ([Value.agg (rc x).toArray] ++ cap).toArray w (fun r w' => r = .bool (q x) ∧ K e w' G L)) :
  Ret prog 225 #[v, .func (.func F) #[] cap.toArray] w (fun r w' => ∃ A', OR G 98 r (rs.filter fun x => !q x) A' ∧ K e w' G (A' ++ L)) := by
 have ho := hO.os
 have hone : ∀ x ∈ rs, Ro.one x.2.2.1 = true := fun x hx => (hO.aft x hx).1.one
 have haf := hO.aft
 refine enter1 (args := [v, .func (.func F) #[] cap.toArray]) func225 rfl rfl rfl rfl ?_
 refine sq <| rg <| ?_
 refine vl asg <| nl <| thn <| sq <| rg <| vl mv <| vl mv <| ?_
 refine cl call177 rfl (Ret.own (R := fun r => ∃ i, r = .int .i64 i ∧ IdxOf q rs i) hK (fun hK' => indexFuncN_c hf hK' (hO.fr hK) (fun x hx w hK'' => hp _ x w (hone x hx) hK''))) ?_
 rintro _ w ⟨⟨m, rfl, hm⟩, hK⟩
 refine vl (aI rfl) <| nl <| thn <| sq <| sq <| rg <| vl (mI rfl) <| vl (eq rfl rfl) <| nl <| thn <| ?_
 refine cdP rfl (fun h0 => ?_) fun h0 => ?_
 ·have hno : ∀ x ∈ rs, q x = false := by
   rcases hm with ⟨_, h⟩ | ⟨k, rfl, _⟩
   ·exact h
   ·omega
  have hfl : (rs.filter fun x => !q x) = rs := List.filter_eq_self.2 fun x hx => by rw [hno x hx]; rfl
  refine sq <| rg <| ?_
  refine vl mv <| vl asg <| nl <| thn <| rt <| thr <| p1r (a := _) rfl <| ?_
  exact ⟨A, by rw [hfl]; exact hO, hK⟩
 ·obtain ⟨k, rfl, hk, hqk, hbe⟩ : ∃ k : Nat, m = k ∧ ∃ h : k < rs.length, q rs[k] = true ∧ ∀ x ∈ rs.take k, q x = false := by
   rcases hm with ⟨h, _⟩ | h
   ·exact absurd h h0
   ·exact h
  obtain ⟨b, cp, cur, rfl, rfl, g1, g2, g3, g4⟩ : ∃ b cp cur, v = .slice (some ⟨b, 0, none⟩) rs.length cp ∧ A = [(b, .cells cur 98 (0, 0))] ∧ rs.length ≤ cp ∧ cp ≤ maxLen ∧ cur.size = cp * 3 ∧ cur.toList.take (rs.length * 3) = rs.flatMap rc := by
   rcases ho with ⟨_, ⟨_, h, _⟩ | h⟩
   ·omega
   ·exact h
  have hfk : (rs.take k).filter (fun x => !q x) = rs.take k := List.filter_eq_self.2 fun x hx => by rw [hbe x hx]; rfl
  have hk1 : ((rs.take (k + 1)).filter fun x => !q x) = rs.take k := by rw [(flt_skip (q := q) (ys := rs) hk rfl hqk).1, hfk]
  have hs : SlLen (.slice (some ⟨b, 0, none⟩) rs.length cp) rs.length := ⟨_, _, rfl⟩
  clear g3 g4 hO
  refine sk <| thn <| sq <| sq <| rg <| ?_
  refine vl (mI rfl) <| vl (ad rfl rfl) <| vl (aI rfl) <| nl <| thn <| bk <| ?_
  refine lp (σ := Nat × Nat × List Rn × Own) (fun s => [(0, .slice (some ⟨b, 0, none⟩) rs.length cp), (1, .func (.func F) #[] cap.toArray), (5, .int .i64 (s.1 : Int)), (6, .int .i64 (s.2.1 : Int))]) (fun s w => s.1 < s.2.1 ∧ s.2.1 ≤ rs.length ∧ s.2.2.1.length = rs.length ∧ s.1 = ((rs.take s.2.1).filter fun x => !q x).length ∧ s.2.2.1.take s.1 = ((rs.take s.2.1).filter fun x => !q x) ∧ s.2.2.1.drop s.2.1 = rs.drop s.2.1 ∧ OS 3 98 (.slice (some ⟨b, 0, none⟩) rs.length cp) rs.length (s.2.2.1.flatMap rc) s.2.2.2 ∧ K e w G (s.2.2.2 ++ L)) (fun s => rs.length - s.2.1) (k, k + 1, rs, [_]) ⟨rfl, rfl, rfl, rfl, trivial⟩ ⟨Nat.lt_succ_self _, hk, rfl, by simp only; rw [hk1, List.length_take]; omega, by simp only; rw [hk1], rfl, ho, hK⟩ ?_
  rintro ⟨i, j, ys, A⟩ g w ⟨hij, hj, hyl, hi, hy1, hy2, ho, hK⟩
  simp only at hij hj hyl hi hy1 hy2 ho hK
  refine sq <| sq <| rg <| ?_
  refine vl (mI rfl) <| vl mv <| vl (ln underlying25 rfl (by assumption)) <| vl (lt rfl rfl) <| nl <| thn <| ?_
  refine cdP rfl (fun hc => ?_) fun hc => ?_
  ·have hj' : j < rs.length := by simp only at hc; omega
   obtain ⟨x, hxe⟩ : ∃ x, rs[j]'hj' = x := ⟨_, rfl⟩
   have hyj : ys[j]? = some x := (drop_at hy2 hj').trans (congrArg some hxe)
   have hx1 : Ro.one x.2.2.1 = true := hone x (hxe ▸ List.getElem_mem hj')
   have hxo : (rc x).all Ro.one = true := allc rfl (allc rfl (allc hx1 rfl))
   refine sk <| thn <| sq <| bk <| sq <| rg <| ?_
   refine vl mv <| vl (mI rfl) <| vl (ixn underlying25 Ty.s98 rfl ho.slw rfl hj') <| vl (lsW (sz := 3) (i := j) (u := rc x) hK ho Ty.a98 Ty.s98 rfl rfl hj' (at_flatR hyj)) <| ?_
   refine al hK Ty.i98 rfl ?_
   intro b7 w hK
   refine soS hK Ty.i98 0 rfl rfl rfl rfl hxo rfl ?_
   intro w hK
   refine nl <| thn <| sq <| rg <| vl mv <| vl (lsO hK Ty.a98 Ty.s98 0 rfl rfl rfl) <| ?_
   replace hK : K e w G ((b7, row (rc x) 98) :: (A ++ L)) := hK
   have hcl := Ret.own (A := (b7, row (rc x) 98) :: A) (R := fun r => r = .bool (q x)) hK (fun hK' => hp _ x _ hx1 hK')
   refine cf (cap := cap) (hf) rfl rfl (hcl) ?_
   rintro _ w ⟨rfl, hK⟩
   refine vl (ntB rfl) <| nl <| thn <| ?_
   refine cdB rfl (fun hq => ?_) fun hq => ?_
   ·have hst := flt_step hj' hyl hi hy1 hy2 (by rw [hxe]; simpa using hq)
    rw [hxe] at hst
    refine sq <| rg <| ?_
    refine vl mv <| vl (mI rfl) <| vl (lsO hK Ty.a98 Ty.s98 0 rfl rfl rfl) <| vl (ixn underlying25 Ty.s98 rfl ho.slw rfl om) <| ?_
    refine osSetS (i := i) (us := rc x) (K.mid1 hK) ho om Ty.i98 rfl rfl rfl hxo fun A' w ho hK => ?_
    rw [flat_sets (c := rc) (sz := 3) rc_len _ i x (by omega)] at ho
    refine nl <| thn <| rg <| vl (mI rfl) <| vl (ad rfl rfl) <| vl (aI rfl) <| nl <| bkn <| thn <| rg <| vl (mI rfl) <| vl (ad rfl rfl) <| vl (aI rfl) <| nl <| thn <| ?_
    exact ⟨(i + 1, j + 1, ys.set i x, A'), ⟨rfl, rfl, rfl, rfl, trivial⟩, ⟨by simp only; omega, hj', by simp only; rw [List.length_set]; exact hyl, hst.2.1, hst.2.2.1, hst.2.2.2, ho, K.dropX (A := A') hK⟩, by simp only; omega⟩
   ·have hst := flt_skip (q := q) hj' hy2 (by rw [hxe]; simpa using hq)
    refine sk <| bkn <| thn <| rg <| ?_
    refine vl (mI rfl) <| vl (ad rfl rfl) <| vl (aI rfl) <| nl <| thn <| ?_
    exact ⟨(i, j + 1, ys, A), ⟨rfl, rfl, rfl, rfl, trivial⟩, ⟨by simp only; omega, hj', hyl, by simp only; rw [hst.1]; exact hi, by simp only; rw [hst.1]; exact hy1, hst.2, ho, hK.drop1⟩, by simp only; omega⟩
  ·have hj' : j = rs.length := by simp only at hc; omega
   subst hj'
   rw [List.take_length] at hi hy1
   obtain ⟨b', cap', cu, hv', rfl, k1, k2, k3, k4⟩ := ho.2.resolve_left (fun h => by have := h.2.1; omega)
   cases hv'
   have hil : i ≤ rs.length := by omega
   refine ex <| the <| the <| bkh <| thn <| sq <| rg <| ?_
   refine vl mv <| vl (mI rfl) <| ?_
   refine vl (slLoC (l := i) underlying25 Ty.s98 rfl rfl hil k1 om) <| ?_
   refine clK hK underlying25 Ty.i98 rfl rfl rfl (by rw [k3, ← Nat.add_mul]; exact Nat.mul_le_mul_right _ om) fun w hK => ?_
   refine nl <| thn <| sq <| rg <| vl mv <| vl (mI rfl) <| vl (slHiC (h := i) underlying25 Ty.s98 rfl rfl om) <| vl asg <| nl <| thn <| rt <| p1r (a := _) rfl <| ?_
   have hkr := keepR (t := 98) (b := b) (Z := (Builtin.zeroCells (Value.agg #[.int .i64 0, .int .i64 0, .slice none 0 0]).cells (rs.length - i)).toList) hil k1 k2 k3 k4 (by rw [Array.length_toList, size_zeroCells]; rfl)
   rw [flat_take rc_len, hy1] at hkr
   refine ⟨[(b, _)], ⟨?_, fun y hy => haf y (List.mem_filter.1 hy).1⟩, hK⟩
   rw [← hi]; exact hkr
theorem fail1_c {t : Nat} (hK : K e w G L) (hn : (bk, row [.int .i64 k] t) ∈ L) {x : Rn} (_ : Ro.one x.2.2.1 = true) :
  Ret prog 226 #[.agg (rc x).toArray, .pointer (some ⟨bk, 0, none⟩)] w (fun r w' => r = .bool (decide (x.1 = k)) ∧ K e w' G L) := by
 refine enter1 (args := [.agg (rc x).toArray, .pointer (some ⟨bk, 0, none⟩)]) func226 rfl rfl rfl rfl ?_
 refine sq <| rg <| ?_
 refine bx hK rfl rfl ?_
 intro b2 w hK
 refine vl (aB rfl) <| nl <| thn <| sq <| rg <| vl (fa underlying98 rfl Ty.z3 rfl) <| vl (ldO hK Ty.o3 0 rfl rfl rfl) <| vl (ldC Ty.o3 rfl (row_cell (l := [Value.int .i64 k]) (hK.own _ _ (List.mem_cons_of_mem _ hn)))) <| vl (eq rfl rfl) <| vl (aB rfl) <| nl <| thn <| rt <| p1r (a := .bool _) rfl <| ?_
 exact ⟨rfl, hK.drop1⟩
theorem rgl_filter {rs : List Rn} {id : Int} : rgl (rs.filter fun x => !decide (x.1 = id)) = (rgl rs).filter (fun x => decide (x.1 ≠ id)) := by
 unfold rgl
 rw [List.filter_map]
 congr 1
 apply List.filter_congr
 intro x _
 by_cases h : x.1 = id <;> simp [nd, h]
theorem join1_c (hK : K e w G L) {x : Rn} (hx : Pt x.1) (_ : Ro.one x.2.2.1 = true) (hk : Pt k) : Ret prog 223 #[.agg (rc x).toArray, .int .i64 k] w (fun r w' => (∃ m, r = .int .i64 m ∧ (m < 0 ↔ x.1 < k) ∧ (m = 0 ↔ x.1 = k)) ∧ K e w' G L) := by
 have g1 := hx.1
 have g2 := hx.2
 have g3 := hk.1
 have g4 := hk.2
 refine enter1 (args := [.agg (rc x).toArray, .int .i64 k]) func223 rfl rfl rfl rfl ?_
 refine sq <| rg <| ?_
 refine bx hK rfl rfl ?_
 intro b2 w hK
 refine vl (aI rfl) <| nl <| thn <| sq <| rg <| vl (fa underlying98 rfl Ty.z3 rfl) <| vl (ldO hK Ty.o3 0 rfl rfl rfl) <| vl (mI rfl) <| vl (sb rfl rfl) <| vl (aI rfl) <| nl <| thn <| rt <| p1r (a := .int _ _) rfl <| ?_
 exact ⟨⟨_, rfl, by omega, by omega⟩, hK.drop1⟩
theorem rgl_ins {rs : List Rn} {i : Nat} {b : Bool} {X : Rn} (h : BsR (fun x : Rn => x.1) rs id i b) :
  rgl (rs.take i ++ X :: rs.drop i) = (rgl rs).takeWhile (fun x => decide (x.1 < id)) ++ nd X :: (rgl rs).dropWhile (fun x => decide (x.1 < id)) := by
 have e1 : (rgl rs).takeWhile (fun x => decide (x.1 < id)) = rgl (rs.take i) := by
  rw [← h.take.1]; unfold rgl; rw [List.takeWhile_map]; rfl
 have e2 : (rgl rs).dropWhile (fun x => decide (x.1 < id)) = rgl (rs.drop i) := by
  rw [← h.take.2]; unfold rgl; rw [List.dropWhile_map]; rfl
 rw [e1, e2]; unfold rgl; rw [List.map_append, List.map_cons]
end
open Go Go.Ro Tryz
section
variable {e w : World} {G : View} {L A : Own} {v u : Value} {rs qs : List Rn} {a b k id other at' : Int} {i sb bk : Nat}
end
end Go.Proofs.YtmgggljicpmndaaGreatDoor
