/- Contracts of the functions on worlds: what is valid, who owns a key. Conditions: those that each row states. -/
import Derived.Test.YtmgggljicpmndaaGreatRq
import Derived.Test.YtmgggljicpmndaaGreatWdM
namespace Go.Proofs.YtmgggljicpmndaaGreat
open Go Go.Ro Tryz
section
variable {e w : World} {G : View} {L A : Own} {v u : Value} {xs ys : List Int} {ls : List Ls} {rs : List Rn} {zs : List It} {W : Wv} {wd : Wd} {a b k id other : Int} {i j : Nat}
theorem l51Keys_c (hK : K e w G L) (hv : ItS G v zs) (hl : zs.length ≤ 1048576) : Ret prog 52 #[v] w (fun r w' => ∃ A, OS 1 3 r (keys zs).length (ints (keys zs)) A ∧ K e w' G (A ++ L)) := by
 refine enter1 (args := [v]) func52 rfl rfl rfl rfl ?_
 refine sq <| rg <| ?_
 refine vl asg <| nl <| thn <| sq <| rg <| ?_
 refine bs0 hK underlying25 Ty.i3 ?_
 intro b5 w hK
 refine vl asg <| nl <| thn <| sq <| sq <| rg <| vl (aI rfl) <| nl <| thn <| bk <| ?_
 refine lp (σ := Nat × Value × Own) (fun s => [(0, v), (3, s.2.1), (4, .int .i64 (s.1 : Int))]) (fun s w => s.1 ≤ zs.length ∧ OS 1 3 s.2.1 (keys (zs.take s.1)).length (ints (keys (zs.take s.1))) s.2.2 ∧ K e w G (s.2.2 ++ L)) (fun s => zs.length - s.1) (0, .slice (some ⟨b5, 0, none⟩) 0 0, [(b5, row [] 3)]) ⟨rfl, rfl, rfl, trivial⟩ ⟨Nat.zero_le _, OS.none, hK⟩ ?_
 rintro ⟨i, u, A⟩ g w ⟨hi, ho, hK⟩
 simp only at hi ho hK
 refine sq <| sq <| rg <| ?_
 refine vl (mI rfl) <| vl mv <| vl (ln underlying33 rfl hv.len) <| vl (lt rfl rfl) <| nl <| thn <| ?_
 refine cdP rfl (fun hc => ?_) fun hc => ?_
 ·have hi' : i < zs.length := by simp only at hc; omega
  refine sk <| thn <| sq <| bk <| rg <| ?_
  refine vl mv <| vl mv <| vl (mI rfl) <| vl (ixn underlying33 Ty.s84 rfl hv.1 rfl om) <| vl (fe underlying84 rfl Ty.z3 rfl hv.1 om) <| vl (ldV hK Ty.o3 rfl (hv.cell om 0 rfl)) <| ?_
  refine bsN [.tmp 17] hK underlying25 Ty.i3 rfl rfl rfl rfl rfl rfl rfl rfl ?_
  intro b18 w hK
  refine apI1 (k := zs[i].1) hK underlying25 Ty.i3 rfl rfl ho rfl (by rw [keys_len]; simp; omega) fun v' A' w ho hK => ?_
  refine vl asg <| nl <| bkn <| thn <| rg <| vl (mI rfl) <| vl (ad rfl rfl) <| vl (aI rfl) <| nl <| thn <| ?_
  exact ⟨(i + 1, v', A'), ⟨rfl, rfl, rfl, trivial⟩, ⟨hi', by rw [List.take_succ_eq_append_getElem hi', keys_snoc]; exact ho, hK⟩, by simp only; omega⟩
 ·have hi' : i = zs.length := by simp only at hc; omega
  subst hi'
  refine ex <| the <| the <| bkh <| thn <| sq <| rg <| ?_
  refine vl mv <| vl asg <| nl <| thn <| rt <| p1r (a := _) rfl <| ?_
  rw [List.take_length] at ho
  exact ⟨A, ho, hK⟩
theorem l51Items_c (hK : K e w G L) (hv : ItS G v zs) (hl : zs.length ≤ 1048576) : Ret prog 49 #[v] w (fun r w' => r = .bool (dec (ItOk zs)) ∧ K e w' G L) := by
 refine enter1 (args := [v]) func49 rfl rfl rfl rfl ?_
 refine sq <| rg <| ?_
 refine vl (aB rfl) <| nl <| thn <| sq <| sq <| rg <| vl (aI rfl) <| nl <| thn <| bk <| ?_
 refine lp (σ := Nat) (fun i => [(0, v), (3, .int .i64 (i : Int))]) (fun i w => i ≤ zs.length ∧ (∀ x ∈ zs.take i, 0 ≤ x.2 ∧ x.2 ≤ 99) ∧ K e w G L) (fun i => zs.length - i) 0 ⟨rfl, rfl, trivial⟩ ⟨Nat.zero_le _, by simp, hK⟩ ?_
 rintro i g w ⟨hi, ha, hK⟩
 refine sq <| sq <| rg <| ?_
 refine vl (mI rfl) <| vl mv <| vl (ln underlying33 rfl hv.len) <| vl (lt rfl rfl) <| nl <| thn <| ?_
 refine cdP rfl (fun hc => ?_) fun hc => ?_
 ·have hi' : i < zs.length := by omega
  refine sk <| thn <| sq <| bk <| sq <| rg <| ?_
  refine vl mv <| vl (mI rfl) <| vl (ixn underlying33 Ty.s84 rfl hv.1 rfl om) <| vl (fe underlying84 rfl Ty.z3 rfl hv.1 om) <| vl (ldV hK Ty.o3 rfl (hv.cell om 1 rfl)) <| ?_
  refine cl call81 rfl (l6In_c (C := fun w => K _ w _ _) hK) ?_
  rintro _ w ⟨rfl, hK⟩
  refine vl (nt rfl) <| nl <| thn <| ?_
  refine cdP rfl (fun h1 => ?_) fun h1 => ?_
  ·refine sq <| rg <| ?_
   refine vl (aB rfl) <| nl <| thn <| rt <| bkr <| thr <| thr <| bkr <| thr <| p1r (a := .bool _) rfl <| ?_
   exact ⟨by rw [dec_f]; intro h; exact h1 (h.1 _ (List.getElem_mem hi')), hK⟩
  ·refine sk <| bkn <| thn <| rg <| ?_
   refine vl (mI rfl) <| vl (ad rfl rfl) <| vl (aI rfl) <| nl <| thn <| ?_
   exact ⟨i + 1, ⟨rfl, rfl, trivial⟩, ⟨hi', all_snoc hi' ha (Decidable.not_not.1 h1), hK⟩, by omega⟩
 ·have hi' : i = zs.length := by omega
  subst hi'
  rw [List.take_length] at ha
  refine ex <| the <| the <| bkh <| thn <| sq <| rg <| ?_
  refine vl mv <| ?_
  refine cl call52 rfl (l51Keys_c hK hv hl) ?_
  rintro u w ⟨A, ho, hK⟩
  obtain ⟨G1, hG1, hu, hK⟩ := hK.pubO ho
  refine cl call51 rfl (l1Nodes_c hK (by assumption)) ?_
  rintro _ w ⟨rfl, hK⟩
  refine vl (aB rfl) <| nl <| thn <| rt <| p1r (a := .bool _) rfl <| ?_
  exact ⟨congrArg Value.bool (dec_congr ⟨fun h => ⟨ha, h⟩, fun h => h.2⟩), K.vle hK hG1⟩
theorem keysOf_c (hK : K e w G L) (hv : ItS G v zs) (hl : zs.length ≤ 1048576) : Ret prog 60 #[v] w (fun r w' => ∃ A, OS 1 3 r (keys zs).length (ints (keys zs)) A ∧ K e w' G (A ++ L)) := by
 refine enter1 (args := [v]) func60 rfl rfl rfl rfl ?_
 refine sq <| rg <| ?_
 refine vl asg <| nl <| thn <| sq <| rg <| vl asg <| nl <| thn <| sq <| sq <| rg <| vl mv <| vl (ln underlying33 rfl hv.len) <| vl (mI rfl) <| nl <| thn <| ?_
 refine bk <| ?_
 refine lp (σ := Nat × Value × Own) (fun s => [(3, s.2.1), (6, v), (7, .int .i64 (zs.length : Int)), (8, .int .i64 (s.1 : Int))]) (fun s w => s.1 ≤ zs.length ∧ OS 1 3 s.2.1 (keys (zs.take s.1)).length (ints (keys (zs.take s.1))) s.2.2 ∧ K e w G (s.2.2 ++ L)) (fun s => zs.length - s.1) (0, .slice none 0 0, []) ⟨rfl, rfl, rfl, rfl, trivial⟩ ⟨Nat.zero_le _, OS.nil _ _, hK⟩ ?_
 rintro ⟨i, u, A⟩ g w ⟨hi, ho, hK⟩
 simp only at hi ho hK
 refine sq <| rg <| ?_
 refine vl (lt rfl rfl) <| nl <| thn <| sq <| ?_
 refine cdP rfl (fun hc => ?_) fun hc => ?_
 ·have hi' : i < zs.length := by simp only at hc; omega
  refine sk <| thn <| sq <| bk <| sq <| rg <| ?_
  refine vl (ixn underlying33 Ty.s84 rfl hv.1 rfl om) <| vl (lsF hK Ty.a84 Ty.s84 rfl hv om) <| ?_
  refine al hK Ty.i84 rfl ?_
  intro b5 w hK
  refine soS hK Ty.i84 0 rfl rfl rfl rfl rfl rfl ?_
  intro w hK
  refine nl <| thn <| rg <| vl mv <| vl (fa underlying84 rfl Ty.z3 rfl) <| vl (ldO hK Ty.o3 0 rfl rfl rfl) <| ?_
  refine bsN [.tmp 14] hK underlying25 Ty.i3 rfl rfl rfl rfl rfl rfl rfl rfl ?_
  intro b15 w hK
  replace hK := K.midc (A := [_]) hK
  refine apI1 (k := zs[i].1) hK underlying25 Ty.i3 rfl rfl ho rfl (by rw [keys_len]; simp; omega) fun v' A' w ho hK => ?_
  replace hK := K.mid (B := [_]) hK
  refine vl asg <| nl <| bkn <| thn <| rg <| vl (ad rfl rfl) <| vl (mI rfl) <| nl <| thn <| ?_
  exact ⟨(i + 1, v', A'), ⟨rfl, rfl, rfl, rfl, trivial⟩, ⟨hi', by rw [List.take_succ_eq_append_getElem hi', keys_snoc]; exact ho, hK.mid1.drop1⟩, by simp only; omega⟩
 ·have hi' : i = zs.length := by simp only at hc; omega
  subst hi'
  refine ex <| the <| the <| bkh <| thn <| sq <| rg <| ?_
  refine vl mv <| vl asg <| nl <| thn <| rt <| p1r (a := _) rfl <| ?_
  rw [List.take_length] at ho
  exact ⟨A, ho, hK⟩
theorem specWorldValid_c (hK : K e w G L) (hW : WdS G lc W wd rs) (hzl : wd.items.length ≤ 1048576) : Ret prog 16 #[.agg (wc W).toArray] w (fun r w' => r = .bool (dec (WdOk wd)) ∧ K e w' G L) := by
 have hr := hW.ring
 have hl := hW.leases
 have hz := hW.items
 have ht := hW.told
 have hs := hW.since
 have hsl := hs.le
 have e1 := hW.now
 have e2 := hW.rg
 have e3 := hW.next
 obtain ⟨now, ring, leases, items, ⟨next, told⟩, since⟩ := wd
 simp only at e1 e2 e3 hl hz ht hs hzl hsl
 obtain ⟨wn, wr, wl, wi, wx, wt, ws⟩ := W
 simp only at e1 e2 e3 hl hz ht hs hr
 subst e1
 subst e2
 subst e3
 refine enter1 (args := [.agg (wc ⟨wn, wr, wl, wi, wx, wt, ws⟩).toArray]) func16 rfl rfl rfl rfl ?_
 refine sq <| rg <| ?_
 refine bx hK rfl rfl ?_
 intro b1 w hK
 refine vl (aB rfl) <| nl <| thn <| sq <| sq <| rg <| vl (fa underlying36 rfl Ty.z3 rfl) <| vl (ldO hK Ty.o3 0 rfl rfl rfl) <| ?_
 refine cl call46 rfl (l12Time_c (C := fun w => K _ w _ _) hK) ?_
 rintro _ w ⟨rfl, hK⟩
 refine vl (nt rfl) <| vl (mB rfl) <| ?_
 refine splP (t := 9) rfl (fun hA => ?_) fun hA => ?_
 ·refine gn rfl <| gn rfl <| gn rfl <| gn rfl <| vl (pk rfl) <| vl (mB rfl) <| gn rfl <| gn rfl <| gn rfl <| gn rfl <| vl (pk rfl) <| vl (mB rfl) <| gn rfl <| gn rfl <| gn rfl <| gn rfl <| vl (pk rfl) <| vl (mB rfl) <| gn rfl <| gn rfl <| gn rfl <| gn rfl <| vl (pk rfl) <| vl (mB rfl) <| gn rfl <| gn rfl <| gn rfl <| gn rfl <| vl (pk rfl) <| nl <| thn <| ?_
  refine cdt rfl ?_
  refine sq <| rg <| ?_
  refine vl (aB rfl) <| nl <| thn <| rt <| thr <| p1r (a := .bool _) rfl <| ?_
  exact ⟨by rw [dec_f]; intro h; exact hA h.1, hK.drop1⟩
 ·have hA' : Tm wn := Decidable.not_not.1 hA
  refine gy rfl <| vl (fa underlying36 rfl Ty.z31 rfl) <| gy rfl <| vl (ldO hK Ty.o31 0 rfl rfl rfl) <| gy rfl <| ?_
  refine cl call47 rfl (specRingSafe_c hK (by assumption)) ?_
  rintro _ w ⟨rfl, hK⟩
  refine gy rfl <| vl (ntB rfl) <| vl (pk rfl) <| vl (mB rfl) <| ?_
  refine spl (t := 15) rfl (fun hB => ?_) fun hB => ?_
  ·have hB' := not_dec (Eq.mp (Bool.not_eq_true' _) hB)
   refine gn rfl <| gn rfl <| gn rfl <| gn rfl <| vl (pk rfl) <| vl (mB rfl) <| gn rfl <| gn rfl <| gn rfl <| gn rfl <| vl (pk rfl) <| vl (mB rfl) <| gn rfl <| gn rfl <| gn rfl <| gn rfl <| vl (pk rfl) <| vl (mB rfl) <| gn rfl <| gn rfl <| gn rfl <| gn rfl <| vl (pk rfl) <| nl <| thn <| ?_
   refine cdt rfl ?_
   refine sq <| rg <| ?_
   refine vl (aB rfl) <| nl <| thn <| rt <| thr <| p1r (a := .bool _) rfl <| ?_
   exact ⟨by rw [dec_f]; intro h; exact hB' h.2.1, hK.drop1⟩
  ·have hB' := of_dec (Eq.mp (Bool.not_eq_false' _) hB)
   refine gy rfl <| vl (fa underlying36 rfl Ty.z32 rfl) <| gy rfl <| vl (ldO hK Ty.o32 0 rfl rfl rfl) <| gy rfl <| ?_
   refine cl call48 rfl (specLeasesValid_c hK (by assumption)) ?_
   rintro _ w ⟨rfl, hK⟩
   refine gy rfl <| vl (ntB rfl) <| vl (pk rfl) <| vl (mB rfl) <| ?_
   refine spl (t := 21) rfl (fun hC => ?_) fun hC => ?_
   ·have hC' := not_dec (Eq.mp (Bool.not_eq_true' _) hC)
    refine gn rfl <| gn rfl <| gn rfl <| gn rfl <| vl (pk rfl) <| vl (mB rfl) <| gn rfl <| gn rfl <| gn rfl <| gn rfl <| vl (pk rfl) <| vl (mB rfl) <| gn rfl <| gn rfl <| gn rfl <| gn rfl <| vl (pk rfl) <| nl <| thn <| ?_
    refine cdt rfl ?_
    refine sq <| rg <| ?_
    refine vl (aB rfl) <| nl <| thn <| rt <| thr <| p1r (a := .bool _) rfl <| ?_
    exact ⟨by rw [dec_f]; intro h; exact hC' h.2.2.1, hK.drop1⟩
   ·have hC' := of_dec (Eq.mp (Bool.not_eq_false' _) hC)
    refine gy rfl <| vl (fa underlying36 rfl Ty.z33 rfl) <| gy rfl <| vl (ldO hK Ty.o33 0 rfl rfl rfl) <| gy rfl <| ?_
    refine cl call49 rfl (l51Items_c hK (by assumption) om) ?_
    rintro _ w ⟨rfl, hK⟩
    refine gy rfl <| vl (ntB rfl) <| vl (pk rfl) <| vl (mB rfl) <| ?_
    refine spl (t := 27) rfl (fun hD => ?_) fun hD => ?_
    ·have hD' := not_dec (Eq.mp (Bool.not_eq_true' _) hD)
     refine gn rfl <| gn rfl <| gn rfl <| gn rfl <| vl (pk rfl) <| vl (mB rfl) <| gn rfl <| gn rfl <| gn rfl <| gn rfl <| vl (pk rfl) <| nl <| thn <| ?_
     refine cdt rfl ?_
     refine sq <| rg <| ?_
     refine vl (aB rfl) <| nl <| thn <| rt <| thr <| p1r (a := .bool _) rfl <| ?_
     exact ⟨by rw [dec_f]; intro h; exact hD' h.2.2.2.1, hK.drop1⟩
    ·have hD' := of_dec (Eq.mp (Bool.not_eq_false' _) hD)
     refine gy rfl <| vl (fa underlying36 rfl Ty.z34 rfl) <| gy rfl <| vl (lsP (u := [.int .i64 wx, wt]) hK Ty.a34 Ty.s34 0 rfl rfl rfl rfl) <| gy rfl <| ?_
     refine cl call50 rfl (specScanValid_c hK (by assumption)) ?_
     rintro _ w ⟨rfl, hK⟩
     refine gy rfl <| vl (ntB rfl) <| vl (pk rfl) <| vl (mB rfl) <| ?_
     refine spl (t := 33) rfl (fun hE => ?_) fun hE => ?_
     ·have hE' := not_dec (Eq.mp (Bool.not_eq_true' _) hE)
      refine gn rfl <| gn rfl <| gn rfl <| gn rfl <| vl (pk rfl) <| nl <| thn <| ?_
      refine cdt rfl ?_
      refine sq <| rg <| ?_
      refine vl (aB rfl) <| nl <| thn <| rt <| thr <| p1r (a := .bool _) rfl <| ?_
      exact ⟨by rw [dec_f]; intro h; exact hE' h.2.2.2.2.1, hK.drop1⟩
     ·have hE' := of_dec (Eq.mp (Bool.not_eq_false' _) hE)
      refine gy rfl <| vl (fa underlying36 rfl Ty.z25 rfl) <| gy rfl <| vl (ldO hK Ty.o25 0 rfl rfl rfl) <| gy rfl <| ?_
      refine cl call51 rfl (l1Nodes_c hK (by assumption)) ?_
      rintro _ w ⟨rfl, hK⟩
      refine gy rfl <| vl (ntB rfl) <| vl (pk rfl) <| nl <| thn <| ?_
      refine cdB rfl (fun hF => ?_) fun hF => ?_
      ·have hF' := not_dec (Eq.mp (Bool.not_eq_true' _) hF)
       refine sq <| rg <| ?_
       refine vl (aB rfl) <| nl <| thn <| rt <| thr <| p1r (a := .bool _) rfl <| ?_
       exact ⟨by rw [dec_f]; intro h; exact hF' h.2.2.2.2.2.1, hK.drop1⟩
      ·have hF' := of_dec (Eq.mp (Bool.not_eq_false' _) hF)
       refine sk <| thn <| sq <| rg <| ?_
       refine vl (fa underlying36 rfl Ty.z33 rfl) <| vl (ldO hK Ty.o33 0 rfl rfl rfl) <| ?_
       refine cl call52 rfl (l51Keys_c hK hz hzl) ?_
       rintro u w ⟨A, ho, hK⟩
       obtain ⟨G1, hG1, hu, hK⟩ := hK.pubO ho
       have ht1 := ht.mono hG1
       have hs1 := hs.mono hG1
       refine vl asg <| nl <| thn <| sq <| sq <| rg <| vl (aI rfl) <| nl <| thn <| bk <| ?_
       refine lp (σ := Nat) (fun i => [(1, .pointer (some ⟨b1, 0, none⟩)), (3, u), (4, .int .i64 (i : Int))]) (fun i w => i ≤ since.length ∧ (∀ k ∈ since.take i, k ∈ keys items ∧ (k < wx → k ∈ told)) ∧ K e w G1 ((b1, row (wc ⟨wn, wr, wl, wi, wx, wt, ws⟩) 36) :: L)) (fun i => since.length - i) 0 ⟨rfl, rfl, rfl, trivial⟩ ⟨Nat.zero_le _, by simp, hK⟩ ?_
       rintro i g w ⟨hi, ha, hK⟩
       refine sq <| sq <| rg <| ?_
       refine vl (mI rfl) <| vl (fa underlying36 rfl Ty.z25 rfl) <| vl (ldO hK Ty.o25 0 rfl rfl rfl) <| vl (ln underlying25 rfl hs1.len) <| vl (lt rfl rfl) <| nl <| thn <| ?_
       refine cdP rfl (fun hc => ?_) fun hc => ?_
       ·have hi' : i < since.length := by omega
        refine sk <| thn <| sq <| bk <| sq <| ?_
        refine rgq (fun w => K _ w _ _) Ty.mixed kr (hK.drawn _) ?_
        refine qv (fun w hK => mv) <| qv (fun w hK => (fa underlying36 rfl Ty.z25 rfl)) <| qldO Ty.o25 0 rfl rfl rfl <| qv (fun w hK => (mI rfl)) <| qv (fun w hK => (ixn1 underlying25 Ty.s3 rfl hs1.1 rfl om)) <| qldV Ty.o3 rfl (hs1.at om) <| ?_
        refine qcl call53 rfl (fun w hK => l1Has_c hK (by assumption)) ?_
        refine qv (fun w hK => (nt rfl)) <| qv (fun w hK => (mB rfl)) <| ?_
        refine qsplP (t := 57) rfl (fun h1 => ?_) fun h1 => ?_
        ·refine qgn rfl <| qgn rfl <| qgn rfl <| qgn rfl <| qgn rfl <| qgn rfl <| qgn rfl <| qgn rfl <| qgn rfl <| qgn rfl <| qgu rfl <| qgu rfl <| qgu rfl <| qgu rfl <| qgu rfl <| qgu rfl <| qgu rfl <| qgu rfl <| qgu rfl <| qgu rfl <| qgn rfl <| qv (fun w hK => (pk rfl)) <| qn <| ?_
         intro w hK
         refine thn <| ?_
         refine cdt rfl ?_
         refine sq <| rg <| ?_
         refine vl (aB rfl) <| nl <| thn <| rt <| bkr <| thr <| thr <| bkr <| thr <| p1r (a := .bool _) rfl <| ?_
         exact ⟨by rw [dec_f]; intro h; exact h1 (h.2.2.2.2.2.2 _ (List.getElem_mem hi')).1, (K.vle hK hG1).drop1⟩
        ·have h1' : since[i] ∈ keys items := Decidable.not_not.1 h1
         refine qgy rfl <| qv (fun w hK => (fa underlying36 rfl Ty.z25 rfl)) <| qgy rfl <| qldO Ty.o25 0 rfl rfl rfl <| qgy rfl <| qv (fun w hK => (mI rfl)) <| qgy rfl <| qv (fun w hK => (ixn1 underlying25 Ty.s3 rfl hs1.1 rfl om)) <| qgy rfl <| qldV Ty.o3 rfl (hs1.at om) <| qgy rfl <| qv (fun w hK => (fa underlying36 rfl Ty.z34 rfl)) <| qgy rfl <| qv (fun w hK => (fa underlying34 rfl Ty.z3 rfl)) <| qgy rfl <| qldO Ty.o3 0 rfl rfl rfl <| qgy rfl <| qv (fun w hK => (lt rfl rfl)) <| qgy rfl <| qv (fun w hK => (mB rfl)) <| ?_
         refine qsplP (t := 67) rfl (fun h2 => ?_) fun h2 => ?_
         ·refine qgy rfl <| qv (fun w hK => (fa underlying36 rfl Ty.z34 rfl)) <| qgy rfl <| qv (fun w hK => (fa underlying34 rfl Ty.z25 rfl)) <| qgy rfl <| qldO Ty.o25 0 rfl rfl rfl <| qgy rfl <| qv (fun w hK => (fa underlying36 rfl Ty.z25 rfl)) <| qgy rfl <| qldO Ty.o25 0 rfl rfl rfl <| qgy rfl <| qv (fun w hK => (mI rfl)) <| qgy rfl <| qv (fun w hK => (ixn1 underlying25 Ty.s3 rfl hs1.1 rfl om)) <| qgy rfl <| qldV Ty.o3 rfl (hs1.at om) <| qgy rfl <| ?_
          refine qcl call53 rfl (fun w hK => l1Has_c hK (by assumption)) ?_
          refine qgy rfl <| qv (fun w hK => (nt rfl)) <| qgy rfl <| qv (fun w hK => (pk rfl)) <| qv (fun w hK => (pk rfl)) <| qn <| ?_
          intro w hK
          refine thn <| ?_
          refine cdP rfl (fun h3 => ?_) fun h3 => ?_
          ·refine sq <| rg <| ?_
           refine vl (aB rfl) <| nl <| thn <| rt <| bkr <| thr <| thr <| bkr <| thr <| p1r (a := .bool _) rfl <| ?_
           exact ⟨by rw [dec_f]; intro h; exact h3 ((h.2.2.2.2.2.2 _ (List.getElem_mem hi')).2 h2), (K.vle hK hG1).drop1⟩
          ·refine sk <| bkn <| thn <| rg <| ?_
           refine vl (mI rfl) <| vl (ad rfl rfl) <| vl (aI rfl) <| nl <| thn <| ?_
           exact ⟨i + 1, ⟨rfl, rfl, rfl, trivial⟩, ⟨hi', all_snoc hi' ha ⟨h1', fun _ => Decidable.not_not.1 h3⟩, hK⟩, by omega⟩
         ·refine qgn rfl <| qgn rfl <| qgn rfl <| qgn rfl <| qgn rfl <| qgn rfl <| qgn rfl <| qgn rfl <| qgn rfl <| qgn rfl <| qgy rfl <| qv (fun w hK => (pk rfl)) <| qv (fun w hK => (pk rfl)) <| qn <| ?_
          intro w hK
          refine thn <| ?_
          refine cdf rfl ?_
          refine sk <| bkn <| thn <| rg <| ?_
          refine vl (mI rfl) <| vl (ad rfl rfl) <| vl (aI rfl) <| nl <| thn <| ?_
          exact ⟨i + 1, ⟨rfl, rfl, rfl, trivial⟩, ⟨hi', all_snoc hi' ha ⟨h1', fun h => absurd h h2⟩, hK⟩, by omega⟩
       ·have hi' : i = since.length := by omega
        subst hi'
        rw [List.take_length] at ha
        refine ex <| the <| the <| bkh <| thn <| sq <| rg <| ?_
        refine vl (aB rfl) <| nl <| thn <| rt <| p1r (a := .bool _) rfl <| ?_
        exact ⟨by rw [dec_t ⟨hA', hB', hC', hD', hE', hF', ha⟩], (K.vle hK hG1).drop1⟩
theorem indexFuncI_c {F : FuncId} {cap : List Value} {q : It → Bool} (hf : ∀ args w, (callFunc F args).run prog w = .ok (.enter F args) w) (hK : K e w G L) (hv : ItS G v zs)
  (hp : ∀ x w, K e w G L → Ret prog F ([Value.agg (ic x).toArray] ++ cap).toArray w (fun r w' => r = .bool (q x) ∧ K e w' G L)) :
  Ret prog 95 #[v, .func (.func F) #[] cap.toArray] w (fun r w' => (∃ i, r = .int .i64 i ∧ IdxOf q zs i) ∧ K e w' G L) := by
 have hle := hv.le
 refine enter1 (args := [v, .func (.func F) #[] cap.toArray]) func95 rfl rfl rfl rfl ?_
 refine sq <| rg <| ?_
 refine vl (aI rfl) <| nl <| thn <| sq <| sq <| rg <| vl mv <| vl (ln underlying33 rfl hv.len) <| vl (mI rfl) <| nl <| thn <| bk <| ?_
 refine lp (σ := Nat) (fun i => [(0, v), (1, .func (.func F) #[] cap.toArray), (7, .int .i64 (zs.length : Int)), (8, .int .i64 (i : Int))]) (fun i w => i ≤ zs.length ∧ (∀ x ∈ zs.take i, q x = false) ∧ K e w G L) (fun i => zs.length - i) 0 ⟨rfl, rfl, rfl, rfl, trivial⟩ ⟨Nat.zero_le _, by simp, hK⟩ ?_
 rintro i g w ⟨hi, ha, hK⟩
 refine sq <| rg <| ?_
 refine vl (lt rfl rfl) <| nl <| thn <| sq <| ?_
 refine cdP rfl (fun hc => ?_) fun hc => ?_
 ·have hi' : i < zs.length := by omega
  refine sk <| thn <| sq <| bk <| sq <| rg <| ?_
  refine vl (mI rfl) <| vl (aI rfl) <| nl <| thn <| sq <| rg <| vl mv <| vl mv <| vl (mI rfl) <| vl (ixn underlying33 Ty.s84 rfl hv.1 rfl om) <| vl (lsF hK Ty.a84 Ty.s84 rfl hv om) <| ?_
  refine cf (cap := cap) (hf) rfl rfl (hp zs[i] w hK) ?_
  rintro _ w ⟨rfl, hK⟩
  refine nl <| thn <| ?_
  refine cdB rfl (fun hq => ?_) fun hq => ?_
  ·refine sq <| rg <| ?_
   refine vl (mI rfl) <| vl (aI rfl) <| nl <| thn <| rt <| bkr <| thr <| thr <| bkr <| thr <| p1r (a := .int _ _) rfl <| ?_
   exact ⟨⟨_, rfl, .inr ⟨i, rfl, hi', hq, ha⟩⟩, hK⟩
  ·refine sk <| bkn <| thn <| rg <| ?_
   refine vl (ad rfl rfl) <| vl (mI rfl) <| nl <| thn <| ?_
   exact ⟨i + 1, ⟨rfl, rfl, rfl, rfl, trivial⟩, ⟨hi', all_take hi' ha (by simpa using hq), hK⟩, by omega⟩
 ·have hi' : i = zs.length := by omega
  subst hi'
  refine ex <| the <| the <| bkh <| thn <| sq <| rg <| ?_
  refine vl (aI rfl) <| nl <| thn <| rt <| p1r (a := .int _ _) rfl <| ?_
  rw [List.take_length] at ha
  exact ⟨⟨_, rfl, .inl ⟨rfl, ha⟩⟩, hK⟩
theorem containsFuncI_c {F : FuncId} {cap : List Value} {q : It → Bool} (hf : ∀ args w, (callFunc F args).run prog w = .ok (.enter F args) w) (hK : K e w G L) (hv : ItS G v zs)
  (hp : ∀ x w, K e w G L → Ret prog F ([Value.agg (ic x).toArray] ++ cap).toArray w (fun r w' => r = .bool (q x) ∧ K e w' G L)) :
  Ret prog 66 #[v, .func (.func F) #[] cap.toArray] w (fun r w' => r = .bool (zs.any q) ∧ K e w' G L) := by
 refine enter1 (args := [v, .func (.func F) #[] cap.toArray]) func66 rfl rfl rfl rfl ?_
 refine sq <| rg <| ?_
 refine vl (aB rfl) <| nl <| thn <| sq <| rg <| vl mv <| vl mv <| ?_
 refine cl call95 rfl (indexFuncI_c hf hK hv hp) ?_
 rintro _ w ⟨⟨i, rfl, hi⟩, hK⟩
 refine vl (ge rfl rfl) <| vl (aB rfl) <| nl <| thn <| rt <| p1r (a := .bool _) rfl <| ?_
 refine ⟨congrArg Value.bool ?_, hK⟩
 rcases hi with ⟨rfl, h⟩ | ⟨j, rfl, hj, h1, _⟩
 ·rw [List.any_eq_false.2 fun x hx => by rw [h x hx]; simp]; rfl
 ·rw [List.any_eq_true.2 ⟨_, List.getElem_mem hj, h1⟩]; exact decide_eq_true (by omega)
theorem WorldValid1_c (hK : K e w G L) {x : It} : Ret prog 67 #[.agg (ic x).toArray] w (fun r w' => r = .bool (decide (¬ (0 ≤ x.2 ∧ x.2 ≤ 99))) ∧ K e w' G L) := by
 refine enter1 (args := [.agg (ic x).toArray]) func67 rfl rfl rfl rfl ?_
 refine sq <| rg <| ?_
 refine bx hK rfl rfl ?_
 intro b1 w hK
 refine vl (aB rfl) <| nl <| thn <| sq <| rg <| vl (fa underlying84 rfl Ty.z3 rfl) <| vl (ldO hK Ty.o3 0 rfl rfl rfl) <| ?_
 refine cl call68 rfl (inRange_c (C := fun w => K _ w _ _) hK) ?_
 rintro _ w ⟨rfl, hK⟩
 refine vl (nt rfl) <| vl (aB rfl) <| nl <| thn <| rt <| p1r (a := .bool _) rfl <| ?_
 exact ⟨rfl, hK.drop1⟩
theorem implWorldValid_c (hK : K e w G L) (hW : WdS G lc W wd rs) (hzl : wd.items.length ≤ 1048576) : Ret prog 26 #[.agg (wc W).toArray] w (fun r w' => r = .bool (dec (WdOk wd)) ∧ K e w' G L) := by
 have hr := hW.ring
 have hl := hW.leases
 have hz := hW.items
 have ht := hW.told
 have hs := hW.since
 have hsl := hs.le
 have e1 := hW.now
 have e2 := hW.rg
 have e3 := hW.next
 obtain ⟨now, ring, leases, items, ⟨next, told⟩, since⟩ := wd
 simp only at e1 e2 e3 hl hz ht hs hzl hsl
 obtain ⟨wn, wr, wl, wi, wx, wt, ws⟩ := W
 simp only at e1 e2 e3 hl hz ht hs hr
 subst e1
 subst e2
 subst e3
 refine enter1 (args := [.agg (wc ⟨wn, wr, wl, wi, wx, wt, ws⟩).toArray]) func26 rfl rfl rfl rfl ?_
 refine sq <| rg <| ?_
 refine bx hK rfl rfl ?_
 intro b1 w hK
 refine vl (aB rfl) <| nl <| thn <| sq <| rg <| vl (fa underlying36 rfl Ty.z33 rfl) <| vl (ldO hK Ty.o33 0 rfl rfl rfl) <| ?_
 refine cl call60 rfl (keysOf_c hK hz hzl) ?_
 rintro u w ⟨A, ho, hK⟩
 obtain ⟨G1, hG1, hu, hK⟩ := hK.pubO ho
 replace hr := hr.mono hG1
 replace hl := LeaS.mono hl hG1
 replace hz := hz.mono hG1
 replace ht := ht.mono hG1
 replace hs := hs.mono hG1
 refine vl asg <| nl <| thn <| sq <| sq <| rg <| vl (fa underlying36 rfl Ty.z3 rfl) <| vl (ldO hK Ty.o3 0 rfl rfl rfl) <| ?_
 refine bsN [.tmp 10] hK underlying25 Ty.i3 rfl rfl rfl rfl rfl rfl rfl rfl ?_
 intro b11 w hK
 refine cl call61 rfl (times_o (xs := [wn]) hK rfl) ?_
 rintro _ w ⟨rfl, hK⟩
 replace hK := K.swp hK
 refine vl (ntB rfl) <| vl (mB rfl) <| ?_
 refine spl (t := 14) rfl (fun hA => ?_) fun hA => ?_
 ·have hA' := not_dec (Eq.mp (Bool.not_eq_true' _) hA)
  refine gn rfl <| gn rfl <| gn rfl <| gn rfl <| vl (pk rfl) <| vl (mB rfl) <| gn rfl <| gn rfl <| gn rfl <| gn rfl <| vl (pk rfl) <| vl (mB rfl) <| gn rfl <| gn rfl <| gn rfl <| gn rfl <| vl (pk rfl) <| vl (mB rfl) <| gn rfl <| gn rfl <| gn rfl <| vl (pk rfl) <| vl (mB rfl) <| gn rfl <| gn rfl <| gn rfl <| gn rfl <| vl (pk rfl) <| nl <| thn <| ?_
  refine cdt rfl ?_
  refine sq <| rg <| ?_
  refine vl (aB rfl) <| nl <| thn <| rt <| thr <| p1r (a := .bool _) rfl <| ?_
  exact ⟨by rw [dec_f]; intro h; exact hA' (fun x hx => by rw [List.mem_singleton.1 hx]; exact h.1), (K.vle hK hG1).drop1.drop1⟩
 ·have hA' : Tm wn := of_dec (Eq.mp (Bool.not_eq_false' _) hA) _ (List.mem_singleton.2 rfl)
  refine gy rfl <| vl (fa underlying36 rfl Ty.z31 rfl) <| gy rfl <| vl (ldO hK Ty.o31 0 rfl rfl rfl) <| gy rfl <| ?_
  refine cl call62 rfl (implRingSafe_c hK (by assumption)) ?_
  rintro _ w ⟨rfl, hK⟩
  refine gy rfl <| vl (ntB rfl) <| vl (pk rfl) <| vl (mB rfl) <| ?_
  refine spl (t := 20) rfl (fun hB => ?_) fun hB => ?_
  ·have hB' := not_dec (Eq.mp (Bool.not_eq_true' _) hB)
   refine gn rfl <| gn rfl <| gn rfl <| gn rfl <| vl (pk rfl) <| vl (mB rfl) <| gn rfl <| gn rfl <| gn rfl <| gn rfl <| vl (pk rfl) <| vl (mB rfl) <| gn rfl <| gn rfl <| gn rfl <| vl (pk rfl) <| vl (mB rfl) <| gn rfl <| gn rfl <| gn rfl <| gn rfl <| vl (pk rfl) <| nl <| thn <| ?_
   refine cdt rfl ?_
   refine sq <| rg <| ?_
   refine vl (aB rfl) <| nl <| thn <| rt <| thr <| p1r (a := .bool _) rfl <| ?_
   exact ⟨by rw [dec_f]; intro h; exact hB' h.2.1, (K.vle hK hG1).drop1.drop1⟩
  ·have hB' := of_dec (Eq.mp (Bool.not_eq_false' _) hB)
   refine gy rfl <| vl (fa underlying36 rfl Ty.z32 rfl) <| gy rfl <| vl (ldO hK Ty.o32 0 rfl rfl rfl) <| gy rfl <| ?_
   refine cl call63 rfl (implLeasesValid_c hK (by assumption)) ?_
   rintro _ w ⟨rfl, hK⟩
   refine gy rfl <| vl (ntB rfl) <| vl (pk rfl) <| vl (mB rfl) <| ?_
   refine spl (t := 26) rfl (fun hC => ?_) fun hC => ?_
   ·have hC' := not_dec (Eq.mp (Bool.not_eq_true' _) hC)
    refine gn rfl <| gn rfl <| gn rfl <| gn rfl <| vl (pk rfl) <| vl (mB rfl) <| gn rfl <| gn rfl <| gn rfl <| vl (pk rfl) <| vl (mB rfl) <| gn rfl <| gn rfl <| gn rfl <| gn rfl <| vl (pk rfl) <| nl <| thn <| ?_
    refine cdt rfl ?_
    refine sq <| rg <| ?_
    refine vl (aB rfl) <| nl <| thn <| rt <| thr <| p1r (a := .bool _) rfl <| ?_
    exact ⟨by rw [dec_f]; intro h; exact hC' h.2.2.1, (K.vle hK hG1).drop1.drop1⟩
   ·have hC' := of_dec (Eq.mp (Bool.not_eq_false' _) hC)
    refine gy rfl <| vl (fa underlying36 rfl Ty.z34 rfl) <| gy rfl <| vl (lsP (u := [.int .i64 wx, wt]) hK Ty.a34 Ty.s34 0 rfl rfl rfl rfl) <| gy rfl <| ?_
    refine cl call64 rfl (implScanValid_c hK (by assumption)) ?_
    rintro _ w ⟨rfl, hK⟩
    refine gy rfl <| vl (ntB rfl) <| vl (pk rfl) <| vl (mB rfl) <| ?_
    refine spl (t := 32) rfl (fun hE => ?_) fun hE => ?_
    ·have hE' := not_dec (Eq.mp (Bool.not_eq_true' _) hE)
     refine gn rfl <| gn rfl <| gn rfl <| vl (pk rfl) <| vl (mB rfl) <| gn rfl <| gn rfl <| gn rfl <| gn rfl <| vl (pk rfl) <| nl <| thn <| ?_
     refine cdt rfl ?_
     refine sq <| rg <| ?_
     refine vl (aB rfl) <| nl <| thn <| rt <| thr <| p1r (a := .bool _) rfl <| ?_
     exact ⟨by rw [dec_f]; intro h; exact hE' h.2.2.2.2.1, (K.vle hK hG1).drop1.drop1⟩
    ·have hE' := of_dec (Eq.mp (Bool.not_eq_false' _) hE)
     refine gy rfl <| vl mv <| gy rfl <| ?_
     refine cl call65 rfl (ascendingPositions_c hK (by assumption)) ?_
     rintro _ w ⟨rfl, hK⟩
     refine gy rfl <| vl (ntB rfl) <| vl (pk rfl) <| vl (mB rfl) <| ?_
     refine spl (t := 37) rfl (fun hD => ?_) fun hD => ?_
     ·have hD' := not_dec (Eq.mp (Bool.not_eq_true' _) hD)
      refine gn rfl <| gn rfl <| gn rfl <| gn rfl <| vl (pk rfl) <| nl <| thn <| ?_
      refine cdt rfl ?_
      refine sq <| rg <| ?_
      refine vl (aB rfl) <| nl <| thn <| rt <| thr <| p1r (a := .bool _) rfl <| ?_
      exact ⟨by rw [dec_f]; intro h; exact hD' h.2.2.2.1.2, (K.vle hK hG1).drop1.drop1⟩
     ·have hD' := of_dec (Eq.mp (Bool.not_eq_false' _) hD)
      refine gy rfl <| vl (fa underlying36 rfl Ty.z25 rfl) <| gy rfl <| vl (ldO hK Ty.o25 0 rfl rfl rfl) <| gy rfl <| ?_
      refine cl call65 rfl (ascendingPositions_c hK (by assumption)) ?_
      rintro _ w ⟨rfl, hK⟩
      refine gy rfl <| vl (ntB rfl) <| vl (pk rfl) <| nl <| thn <| ?_
      refine cdB rfl (fun hF => ?_) fun hF => ?_
      ·have hF' := not_dec (Eq.mp (Bool.not_eq_true' _) hF)
       refine sq <| rg <| ?_
       refine vl (aB rfl) <| nl <| thn <| rt <| thr <| p1r (a := .bool _) rfl <| ?_
       exact ⟨by rw [dec_f]; intro h; exact hF' h.2.2.2.2.2.1, (K.vle hK hG1).drop1.drop1⟩
      ·have hF' := of_dec (Eq.mp (Bool.not_eq_false' _) hF)
       refine sk <| thn <| sq <| sq <| rg <| ?_
       refine vl (fa underlying36 rfl Ty.z33 rfl) <| vl (ldO hK Ty.o33 0 rfl rfl rfl) <| ?_
       refine cl call66 rfl (containsFuncI_c (cap := []) (q := fun x => decide (¬ (0 ≤ x.2 ∧ x.2 ≤ 99))) call67 hK hz (fun x w hK => WorldValid1_c hK)) ?_
       rintro _ w ⟨rfl, hK⟩
       refine nl <| thn <| ?_
       refine cdB rfl (fun hI => ?_) fun hI => ?_
       ·refine sq <| rg <| ?_
        refine vl (aB rfl) <| nl <| thn <| rt <| thr <| p1r (a := .bool _) rfl <| ?_
        obtain ⟨x, hx, hx2⟩ := List.any_eq_true.1 hI
        exact ⟨by rw [dec_f]; intro h; exact of_decide_eq_true hx2 (h.2.2.2.1.1 x hx), (K.vle hK hG1).drop1.drop1⟩
       ·have hI' : ∀ x ∈ items, 0 ≤ x.2 ∧ x.2 ≤ 99 := fun x hx => Decidable.not_not.1 (of_decide_eq_false (by have := List.any_eq_false.1 hI x hx; simpa using this))
        refine sk <| thn <| sq <| sq <| rg <| ?_
        refine vl (fa underlying36 rfl Ty.z25 rfl) <| vl (ldO hK Ty.o25 0 rfl rfl rfl) <| vl (ln underlying25 rfl hs.len) <| vl (mI rfl) <| nl <| thn <| bk <| ?_
        refine lp (σ := Nat) (fun i => [(1, .pointer (some ⟨b1, 0, none⟩)), (3, u), (47, ws), (48, .int .i64 (since.length : Int)), (49, .int .i64 (i : Int))]) (fun i w => i ≤ since.length ∧ (∀ k ∈ since.take i, k ∈ keys items ∧ (k < wx → k ∈ told)) ∧ K e w G1 ((b1, row (wc ⟨wn, wr, wl, wi, wx, wt, ws⟩) 36) :: (b11, row [.int .i64 wn] 3) :: L)) (fun i => since.length - i) 0 ⟨rfl, rfl, rfl, rfl, rfl, trivial⟩ ⟨Nat.zero_le _, by simp, hK⟩ ?_
        rintro i g w ⟨hi, ha, hK⟩
        refine sq <| rg <| ?_
        refine vl (lt rfl rfl) <| nl <| thn <| sq <| ?_
        refine cdP rfl (fun hc => ?_) fun hc => ?_
        ·have hi' : i < since.length := by omega
         refine sk <| thn <| sq <| bk <| sq <| rg <| ?_
         refine vl (ixn1 underlying25 Ty.s3 rfl hs.1 rfl om) <| vl (ldV hK Ty.o3 rfl (hs.at om)) <| vl (aI rfl) <| nl <| thn <| sq <| rg <| vl mv <| vl (mI rfl) <| ?_
         refine cl call69 rfl (contains_c hK hu) ?_
         rintro _ w ⟨rfl, hK⟩
         refine vl (nt rfl) <| vl (mB rfl) <| ?_
         refine splP (t := 57) rfl (fun h1 => ?_) fun h1 => ?_
         ·refine gn rfl <| gn rfl <| gn rfl <| gn rfl <| gn rfl <| gn rfl <| gu rfl <| gu rfl <| gu rfl <| gu rfl <| gu rfl <| gu rfl <| gn rfl <| vl (pk rfl) <| nl <| thn <| ?_
          refine cdt rfl ?_
          refine sq <| rg <| ?_
          refine vl (aB rfl) <| nl <| thn <| rt <| bkr <| thr <| thr <| bkr <| thr <| p1r (a := .bool _) rfl <| ?_
          exact ⟨by rw [dec_f]; intro h; exact h1 (h.2.2.2.2.2.2 _ (List.getElem_mem hi')).1, (K.vle hK hG1).drop1.drop1⟩
         ·have h1' : since[i] ∈ keys items := Decidable.not_not.1 h1
          refine gy rfl <| vl (mI rfl) <| gy rfl <| vl (fa underlying36 rfl Ty.z34 rfl) <| gy rfl <| vl (fa underlying34 rfl Ty.z3 rfl) <| gy rfl <| vl (ldO hK Ty.o3 0 rfl rfl rfl) <| gy rfl <| vl (lt rfl rfl) <| gy rfl <| vl (mB rfl) <| ?_
          refine splP (t := 63) rfl (fun h2 => ?_) fun h2 => ?_
          ·refine gy rfl <| vl (fa underlying36 rfl Ty.z34 rfl) <| gy rfl <| vl (fa underlying34 rfl Ty.z25 rfl) <| gy rfl <| vl (ldO hK Ty.o25 0 rfl rfl rfl) <| gy rfl <| vl (mI rfl) <| gy rfl <| ?_
           refine cl call69 rfl (contains_c hK ht) ?_
           rintro _ w ⟨rfl, hK⟩
           refine gy rfl <| vl (nt rfl) <| gy rfl <| vl (pk rfl) <| vl (pk rfl) <| nl <| thn <| ?_
           refine cdP rfl (fun h3 => ?_) fun h3 => ?_
           ·refine sq <| rg <| ?_
            refine vl (aB rfl) <| nl <| thn <| rt <| bkr <| thr <| thr <| bkr <| thr <| p1r (a := .bool _) rfl <| ?_
            exact ⟨by rw [dec_f]; intro h; exact h3 ((h.2.2.2.2.2.2 _ (List.getElem_mem hi')).2 h2), (K.vle hK hG1).drop1.drop1⟩
           ·refine sk <| bkn <| thn <| rg <| ?_
            refine vl (ad rfl rfl) <| vl (mI rfl) <| nl <| thn <| ?_
            exact ⟨i + 1, ⟨rfl, rfl, rfl, rfl, rfl, trivial⟩, ⟨hi', all_snoc hi' ha ⟨h1', fun _ => Decidable.not_not.1 h3⟩, hK⟩, by omega⟩
          ·refine gn rfl <| gn rfl <| gn rfl <| gn rfl <| gn rfl <| gn rfl <| gy rfl <| vl (pk rfl) <| vl (pk rfl) <| nl <| thn <| ?_
           refine cdf rfl ?_
           refine sk <| bkn <| thn <| rg <| ?_
           refine vl (ad rfl rfl) <| vl (mI rfl) <| nl <| thn <| ?_
           exact ⟨i + 1, ⟨rfl, rfl, rfl, rfl, rfl, trivial⟩, ⟨hi', all_snoc hi' ha ⟨h1', fun h => absurd h h2⟩, hK⟩, by omega⟩
        ·have hi' : i = since.length := by omega
         subst hi'
         rw [List.take_length] at ha
         refine ex <| the <| the <| bkh <| thn <| sq <| rg <| ?_
         refine vl (aB rfl) <| nl <| thn <| rt <| p1r (a := .bool _) rfl <| ?_
         exact ⟨by rw [dec_t ⟨hA', hB', hC', ⟨hI', hD'⟩, hE', hF', ha⟩], (K.vle hK hG1).drop1.drop1⟩
end
end Go.Proofs.YtmgggljicpmndaaGreat
