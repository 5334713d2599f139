/- Contracts of the functions on worlds: what is valid, who owns a key. Contracts of the functions on worlds: who owns a key. Conditions: those that each row states. -/
import Derived.Test.YtmfolinemnlnbaaGreatDoorRq
import Derived.Test.YtmfolinemnlnbaaGreatDoorLeM
namespace Go.Proofs.YtmfolinemnlnbaaGreatDoor
open Go Go.Ro Tryz
section
variable {e w : World} {G : View} {L A : Own} {v u : Value} {xs ys : List Int} {ls : List Ls} {rs : List Rn} {zs : List It} {W : Wv} {wd : Wd} {a b k id other : Int} {i j : Nat}
theorem l51Keys_c (hK : K e w G L) (hv : ItS G v zs) (hl : zs.length ≤ 1048576) : Ret prog 48 #[v] w (fun r w' => ∃ A, OS 1 3 r (keys zs).length (ints (keys zs)) A ∧ K e w' G (A ++ L)) := by
 refine enter1 (args := [v]) func48 rfl rfl rfl rfl ?_
 refine sq <| rg <| ?_
 refine vl asg <| nl <| thn <| sq <| rg <| ?_
 refine bs0 hK underlying26 Ty.i3 ?_
 intro b5 w hK
 refine vl asg <| nl <| thn <| sq <| sq <| rg <| vl (aI rfl) <| nl <| thn <| bk <| ?_
 refine lp (σ := Nat × Value × Own) (fun s => [(0, v), (3, s.2.1), (4, .int .i64 (s.1 : Int))]) (fun s w => s.1 ≤ zs.length ∧ OS 1 3 s.2.1 (keys (zs.take s.1)).length (ints (keys (zs.take s.1))) s.2.2 ∧ K e w G (s.2.2 ++ L)) (fun s => zs.length - s.1) (0, .slice (some ⟨b5, 0, none⟩) 0 0, [(b5, row [] 3)]) ⟨rfl, rfl, rfl, trivial⟩ ⟨Nat.zero_le _, OS.none, hK⟩ ?_
 rintro ⟨i, u, A⟩ g w ⟨hi, ho, hK⟩
 simp only at hi ho hK
 refine sq <| sq <| rg <| ?_
 refine vl (mI rfl) <| vl mv <| vl (ln underlying25 rfl hv.len) <| vl (lt rfl rfl) <| nl <| thn <| ?_
 refine cdP rfl (fun hc => ?_) fun hc => ?_
 ·have hi' : i < zs.length := by simp only at hc; omega
  refine sk <| thn <| sq <| bk <| rg <| ?_
  refine vl mv <| vl mv <| vl (mI rfl) <| vl (ixn underlying25 Ty.s54 rfl hv.1 rfl om) <| vl (fe underlying54 rfl Ty.z3 rfl hv.1 om) <| vl (ldV hK Ty.o3 rfl (hv.cell om 0 rfl)) <| ?_
  refine bsN [.tmp 17] hK underlying26 Ty.i3 rfl rfl rfl rfl rfl rfl rfl rfl ?_
  intro b18 w hK
  refine apI1 (k := zs[i].1) hK underlying26 Ty.i3 rfl rfl ho rfl (by rw [keys_len]; simp; omega) fun v' A' w ho hK => ?_
  refine vl asg <| nl <| bkn <| thn <| rg <| vl (mI rfl) <| vl (ad rfl rfl) <| vl (aI rfl) <| nl <| thn <| ?_
  exact ⟨(i + 1, v', A'), ⟨rfl, rfl, rfl, trivial⟩, ⟨hi', by rw [List.take_succ_eq_append_getElem hi', keys_snoc]; exact ho, hK⟩, by simp only; omega⟩
 ·have hi' : i = zs.length := by simp only at hc; omega
  subst hi'
  refine ex <| the <| the <| bkh <| thn <| sq <| rg <| ?_
  refine vl mv <| vl asg <| nl <| thn <| rt <| p1r (a := _) rfl <| ?_
  rw [List.take_length] at ho
  exact ⟨A, ho, hK⟩
theorem keysOf_c (hK : K e w G L) (hv : ItS G v zs) (hl : zs.length ≤ 1048576) : Ret prog 56 #[v] w (fun r w' => ∃ A, OS 1 3 r (keys zs).length (ints (keys zs)) A ∧ K e w' G (A ++ L)) := by
 refine enter1 (args := [v]) func56 rfl rfl rfl rfl ?_
 refine sq <| rg <| ?_
 refine vl asg <| nl <| thn <| sq <| rg <| vl asg <| nl <| thn <| sq <| sq <| rg <| vl mv <| vl (ln underlying25 rfl hv.len) <| vl (mI rfl) <| nl <| thn <| ?_
 refine bk <| ?_
 refine lp (σ := Nat × Value × Own) (fun s => [(3, s.2.1), (6, v), (7, .int .i64 (zs.length : Int)), (8, .int .i64 (s.1 : Int))]) (fun s w => s.1 ≤ zs.length ∧ OS 1 3 s.2.1 (keys (zs.take s.1)).length (ints (keys (zs.take s.1))) s.2.2 ∧ K e w G (s.2.2 ++ L)) (fun s => zs.length - s.1) (0, .slice none 0 0, []) ⟨rfl, rfl, rfl, rfl, trivial⟩ ⟨Nat.zero_le _, OS.nil _ _, hK⟩ ?_
 rintro ⟨i, u, A⟩ g w ⟨hi, ho, hK⟩
 simp only at hi ho hK
 refine sq <| rg <| ?_
 refine vl (lt rfl rfl) <| nl <| thn <| sq <| ?_
 refine cdP rfl (fun hc => ?_) fun hc => ?_
 ·have hi' : i < zs.length := by simp only at hc; omega
  refine sk <| thn <| sq <| bk <| sq <| rg <| ?_
  refine vl (ixn underlying25 Ty.s54 rfl hv.1 rfl om) <| vl (lsF hK Ty.a54 Ty.s54 rfl hv om) <| ?_
  refine al hK Ty.i54 rfl ?_
  intro b5 w hK
  refine soS hK Ty.i54 0 rfl rfl rfl rfl rfl rfl ?_
  intro w hK
  refine nl <| thn <| rg <| vl mv <| vl (fa underlying54 rfl Ty.z3 rfl) <| vl (ldO hK Ty.o3 0 rfl rfl rfl) <| ?_
  refine bsN [.tmp 14] hK underlying26 Ty.i3 rfl rfl rfl rfl rfl rfl rfl rfl ?_
  intro b15 w hK
  replace hK := K.midc (A := [_]) hK
  refine apI1 (k := zs[i].1) hK underlying26 Ty.i3 rfl rfl ho rfl (by rw [keys_len]; simp; omega) fun v' A' w ho hK => ?_
  replace hK := K.mid (B := [_]) hK
  refine vl asg <| nl <| bkn <| thn <| rg <| vl (ad rfl rfl) <| vl (mI rfl) <| nl <| thn <| ?_
  exact ⟨(i + 1, v', A'), ⟨rfl, rfl, rfl, rfl, trivial⟩, ⟨hi', by rw [List.take_succ_eq_append_getElem hi', keys_snoc]; exact ho, hK.mid1.drop1⟩, by simp only; omega⟩
 ·have hi' : i = zs.length := by simp only at hc; omega
  subst hi'
  refine ex <| the <| the <| bkh <| thn <| sq <| rg <| ?_
  refine vl mv <| vl asg <| nl <| thn <| rt <| p1r (a := _) rfl <| ?_
  rw [List.take_length] at ho
  exact ⟨A, ho, hK⟩
theorem indexFuncI_c {F : FuncId} {cap : List Value} {q : It → Bool} (hf : ∀ args w, (callFunc F args).run prog w = .ok (.enter F args) w) (hK : K e w G L) (hv : ItS G v zs)
  (hp : ∀ x w, K e w G L → Ret prog F ([Value.agg (ic x).toArray] ++ cap).toArray w (fun r w' => r = .bool (q x) ∧ K e w' G L)) :
  Ret prog 108 #[v, .func (.func F) #[] cap.toArray] w (fun r w' => (∃ i, r = .int .i64 i ∧ IdxOf q zs i) ∧ K e w' G L) := by
 have hle := hv.le
 refine enter1 (args := [v, .func (.func F) #[] cap.toArray]) func108 rfl rfl rfl rfl ?_
 refine sq <| rg <| ?_
 refine vl (aI rfl) <| nl <| thn <| sq <| sq <| rg <| vl mv <| vl (ln underlying25 rfl hv.len) <| vl (mI rfl) <| nl <| thn <| bk <| ?_
 refine lp (σ := Nat) (fun i => [(0, v), (1, .func (.func F) #[] cap.toArray), (7, .int .i64 (zs.length : Int)), (8, .int .i64 (i : Int))]) (fun i w => i ≤ zs.length ∧ (∀ x ∈ zs.take i, q x = false) ∧ K e w G L) (fun i => zs.length - i) 0 ⟨rfl, rfl, rfl, rfl, trivial⟩ ⟨Nat.zero_le _, by simp, hK⟩ ?_
 rintro i g w ⟨hi, ha, hK⟩
 refine sq <| rg <| ?_
 refine vl (lt rfl rfl) <| nl <| thn <| sq <| ?_
 refine cdP rfl (fun hc => ?_) fun hc => ?_
 ·have hi' : i < zs.length := by omega
  refine sk <| thn <| sq <| bk <| sq <| rg <| ?_
  refine vl (mI rfl) <| vl (aI rfl) <| nl <| thn <| sq <| rg <| vl mv <| vl mv <| vl (mI rfl) <| vl (ixn underlying25 Ty.s54 rfl hv.1 rfl om) <| vl (lsF hK Ty.a54 Ty.s54 rfl hv om) <| ?_
  refine cf (cap := cap) (hf) rfl rfl (hp zs[i] w hK) ?_
  rintro _ w ⟨rfl, hK⟩
  refine nl <| thn <| ?_
  refine cdB rfl (fun hq => ?_) fun hq => ?_
  ·refine sq <| rg <| ?_
   refine vl (mI rfl) <| vl (aI rfl) <| nl <| thn <| rt <| bkr <| thr <| thr <| bkr <| thr <| p1r (a := .int _ _) rfl <| ?_
   exact ⟨⟨_, rfl, .inr ⟨i, rfl, hi', hq, ha⟩⟩, hK⟩
  ·refine sk <| bkn <| thn <| rg <| ?_
   refine vl (ad rfl rfl) <| vl (mI rfl) <| nl <| thn <| ?_
   exact ⟨i + 1, ⟨rfl, rfl, rfl, rfl, trivial⟩, ⟨hi', all_take hi' ha (by simpa using hq), hK⟩, by omega⟩
 ·have hi' : i = zs.length := by omega
  subst hi'
  refine ex <| the <| the <| bkh <| thn <| sq <| rg <| ?_
  refine vl (aI rfl) <| nl <| thn <| rt <| p1r (a := .int _ _) rfl <| ?_
  rw [List.take_length] at ha
  exact ⟨⟨_, rfl, .inl ⟨rfl, ha⟩⟩, hK⟩
theorem containsFuncI_c {F : FuncId} {cap : List Value} {q : It → Bool} (hf : ∀ args w, (callFunc F args).run prog w = .ok (.enter F args) w) (hK : K e w G L) (hv : ItS G v zs)
  (hp : ∀ x w, K e w G L → Ret prog F ([Value.agg (ic x).toArray] ++ cap).toArray w (fun r w' => r = .bool (q x) ∧ K e w' G L)) :
  Ret prog 61 #[v, .func (.func F) #[] cap.toArray] w (fun r w' => r = .bool (zs.any q) ∧ K e w' G L) := by
 refine enter1 (args := [v, .func (.func F) #[] cap.toArray]) func61 rfl rfl rfl rfl ?_
 refine sq <| rg <| ?_
 refine vl (aB rfl) <| nl <| thn <| sq <| rg <| vl mv <| vl mv <| ?_
 refine cl call108 rfl (indexFuncI_c hf hK hv hp) ?_
 rintro _ w ⟨⟨i, rfl, hi⟩, hK⟩
 refine vl (ge rfl rfl) <| vl (aB rfl) <| nl <| thn <| rt <| p1r (a := .bool _) rfl <| ?_
 refine ⟨congrArg Value.bool ?_, hK⟩
 rcases hi with ⟨rfl, h⟩ | ⟨j, rfl, hj, h1, _⟩
 ·rw [List.any_eq_false.2 fun x hx => by rw [h x hx]; simp]; rfl
 ·rw [List.any_eq_true.2 ⟨_, List.getElem_mem hj, h1⟩]; exact decide_eq_true (by omega)
theorem WorldValid1_c (hK : K e w G L) {x : It} : Ret prog 62 #[.agg (ic x).toArray] w (fun r w' => r = .bool (decide (¬ (0 ≤ x.2 ∧ x.2 ≤ 99))) ∧ K e w' G L) := by
 refine enter1 (args := [.agg (ic x).toArray]) func62 rfl rfl rfl rfl ?_
 refine sq <| rg <| ?_
 refine bx hK rfl rfl ?_
 intro b1 w hK
 refine vl (aB rfl) <| nl <| thn <| sq <| rg <| vl (fa underlying54 rfl Ty.z3 rfl) <| vl (ldO hK Ty.o3 0 rfl rfl rfl) <| ?_
 refine cl call63 rfl (inRange_c (C := fun w => K _ w _ _) hK) ?_
 rintro _ w ⟨rfl, hK⟩
 refine vl (nt rfl) <| vl (aB rfl) <| nl <| thn <| rt <| p1r (a := .bool _) rfl <| ?_
 exact ⟨rfl, hK.drop1⟩
theorem implWorldValid_c (hK : K e w G L) (hW : WdS G lc W wd rs) (hzl : wd.items.length ≤ 1048576) : Ret prog 23 #[.agg (wc W).toArray] w (fun r w' => r = .bool (dec (WdOk wd)) ∧ K e w' G L) := by
 have hr := hW.ring
 have hl := hW.leases
 have hz := hW.items
 have ht := hW.told
 have hs := hW.since
 have hsl := hs.le
 have e1 := hW.now
 have e2 := hW.rg
 have e3 := hW.next
 obtain ⟨now, ring, leases, items, ⟨next, told⟩, since⟩ := wd
 simp only at e1 e2 e3 hl hz ht hs hzl hsl
 obtain ⟨wn, wr, wl, wi, wx, wt, ws⟩ := W
 simp only at e1 e2 e3 hl hz ht hs hr
 subst e1
 subst e2
 subst e3
 refine enter1 (args := [.agg (wc ⟨wn, wr, wl, wi, wx, wt, ws⟩).toArray]) func23 rfl rfl rfl rfl ?_
 refine sq <| rg <| ?_
 refine bx hK rfl rfl ?_
 intro b1 w hK
 refine vl (aB rfl) <| nl <| thn <| sq <| rg <| vl (fa underlying30 rfl Ty.z25 rfl) <| vl (ldO hK Ty.o25 0 rfl rfl rfl) <| ?_
 refine cl call56 rfl (keysOf_c hK hz hzl) ?_
 rintro u w ⟨A, ho, hK⟩
 obtain ⟨G1, hG1, hu, hK⟩ := hK.pubO ho
 replace hr := hr.mono hG1
 replace hl := LeaS.mono hl hG1
 replace hz := hz.mono hG1
 replace ht := ht.mono hG1
 replace hs := hs.mono hG1
 refine vl asg <| nl <| thn <| sq <| sq <| rg <| vl (fa underlying30 rfl Ty.z3 rfl) <| vl (ldO hK Ty.o3 0 rfl rfl rfl) <| ?_
 refine bsN [.tmp 10] hK underlying26 Ty.i3 rfl rfl rfl rfl rfl rfl rfl rfl ?_
 intro b11 w hK
 refine cl call57 rfl (times_o (xs := [wn]) hK rfl) ?_
 rintro _ w ⟨rfl, hK⟩
 replace hK := K.swp hK
 refine vl (ntB rfl) <| vl (mB rfl) <| ?_
 refine spl (t := 14) rfl (fun hA => ?_) fun hA => ?_
 ·have hA' := not_dec (Eq.mp (Bool.not_eq_true' _) hA)
  refine gn rfl <| gn rfl <| gn rfl <| gn rfl <| vl (pk rfl) <| vl (mB rfl) <| gn rfl <| gn rfl <| gn rfl <| gn rfl <| vl (pk rfl) <| vl (mB rfl) <| gn rfl <| gn rfl <| gn rfl <| gn rfl <| vl (pk rfl) <| vl (mB rfl) <| gn rfl <| gn rfl <| gn rfl <| vl (pk rfl) <| vl (mB rfl) <| gn rfl <| gn rfl <| gn rfl <| gn rfl <| vl (pk rfl) <| nl <| thn <| ?_
  refine cdt rfl ?_
  refine sq <| rg <| ?_
  refine vl (aB rfl) <| nl <| thn <| rt <| thr <| p1r (a := .bool _) rfl <| ?_
  exact ⟨by rw [dec_f]; intro h; exact hA' (fun x hx => by rw [List.mem_singleton.1 hx]; exact h.1), (K.vle hK hG1).drop1.drop1⟩
 ·have hA' : Tm wn := of_dec (Eq.mp (Bool.not_eq_false' _) hA) _ (List.mem_singleton.2 rfl)
  refine gy rfl <| vl (fa underlying30 rfl Ty.z23 rfl) <| gy rfl <| vl (ldO hK Ty.o23 0 rfl rfl rfl) <| gy rfl <| ?_
  refine cl call58 rfl (implRingSafe_c hK (by assumption)) ?_
  rintro _ w ⟨rfl, hK⟩
  refine gy rfl <| vl (ntB rfl) <| vl (pk rfl) <| vl (mB rfl) <| ?_
  refine spl (t := 20) rfl (fun hB => ?_) fun hB => ?_
  ·have hB' := not_dec (Eq.mp (Bool.not_eq_true' _) hB)
   refine gn rfl <| gn rfl <| gn rfl <| gn rfl <| vl (pk rfl) <| vl (mB rfl) <| gn rfl <| gn rfl <| gn rfl <| gn rfl <| vl (pk rfl) <| vl (mB rfl) <| gn rfl <| gn rfl <| gn rfl <| vl (pk rfl) <| vl (mB rfl) <| gn rfl <| gn rfl <| gn rfl <| gn rfl <| vl (pk rfl) <| nl <| thn <| ?_
   refine cdt rfl ?_
   refine sq <| rg <| ?_
   refine vl (aB rfl) <| nl <| thn <| rt <| thr <| p1r (a := .bool _) rfl <| ?_
   exact ⟨by rw [dec_f]; intro h; exact hB' h.2.1, (K.vle hK hG1).drop1.drop1⟩
  ·have hB' := of_dec (Eq.mp (Bool.not_eq_false' _) hB)
   refine gy rfl <| vl (fa underlying30 rfl Ty.z24 rfl) <| gy rfl <| vl (ldO hK Ty.o24 0 rfl rfl rfl) <| gy rfl <| ?_
   refine cl call59 rfl (implLeasesValid_c hK (by assumption)) ?_
   rintro _ w ⟨rfl, hK⟩
   refine gy rfl <| vl (ntB rfl) <| vl (pk rfl) <| vl (mB rfl) <| ?_
   refine spl (t := 26) rfl (fun hC => ?_) fun hC => ?_
   ·have hC' := not_dec (Eq.mp (Bool.not_eq_true' _) hC)
    refine gn rfl <| gn rfl <| gn rfl <| gn rfl <| vl (pk rfl) <| vl (mB rfl) <| gn rfl <| gn rfl <| gn rfl <| vl (pk rfl) <| vl (mB rfl) <| gn rfl <| gn rfl <| gn rfl <| gn rfl <| vl (pk rfl) <| nl <| thn <| ?_
    refine cdt rfl ?_
    refine sq <| rg <| ?_
    refine vl (aB rfl) <| nl <| thn <| rt <| thr <| p1r (a := .bool _) rfl <| ?_
    exact ⟨by rw [dec_f]; intro h; exact hC' h.2.2.1, (K.vle hK hG1).drop1.drop1⟩
   ·have hC' := of_dec (Eq.mp (Bool.not_eq_false' _) hC)
    refine gy rfl <| vl (fa underlying30 rfl Ty.z28 rfl) <| gy rfl <| vl (lsP (u := [.int .i64 wx, wt]) hK Ty.a28 Ty.s28 0 rfl rfl rfl rfl) <| gy rfl <| ?_
    refine cl call55 rfl (implScanValid_c hK (by assumption)) ?_
    rintro _ w ⟨rfl, hK⟩
    refine gy rfl <| vl (ntB rfl) <| vl (pk rfl) <| vl (mB rfl) <| ?_
    refine spl (t := 32) rfl (fun hE => ?_) fun hE => ?_
    ·have hE' := not_dec (Eq.mp (Bool.not_eq_true' _) hE)
     refine gn rfl <| gn rfl <| gn rfl <| vl (pk rfl) <| vl (mB rfl) <| gn rfl <| gn rfl <| gn rfl <| gn rfl <| vl (pk rfl) <| nl <| thn <| ?_
     refine cdt rfl ?_
     refine sq <| rg <| ?_
     refine vl (aB rfl) <| nl <| thn <| rt <| thr <| p1r (a := .bool _) rfl <| ?_
     exact ⟨by rw [dec_f]; intro h; exact hE' h.2.2.2.2.1, (K.vle hK hG1).drop1.drop1⟩
    ·have hE' := of_dec (Eq.mp (Bool.not_eq_false' _) hE)
     refine gy rfl <| vl mv <| gy rfl <| ?_
     refine cl call60 rfl (ascendingPositions_c hK (by assumption)) ?_
     rintro _ w ⟨rfl, hK⟩
     refine gy rfl <| vl (ntB rfl) <| vl (pk rfl) <| vl (mB rfl) <| ?_
     refine spl (t := 37) rfl (fun hD => ?_) fun hD => ?_
     ·have hD' := not_dec (Eq.mp (Bool.not_eq_true' _) hD)
      refine gn rfl <| gn rfl <| gn rfl <| gn rfl <| vl (pk rfl) <| nl <| thn <| ?_
      refine cdt rfl ?_
      refine sq <| rg <| ?_
      refine vl (aB rfl) <| nl <| thn <| rt <| thr <| p1r (a := .bool _) rfl <| ?_
      exact ⟨by rw [dec_f]; intro h; exact hD' h.2.2.2.1.2, (K.vle hK hG1).drop1.drop1⟩
     ·have hD' := of_dec (Eq.mp (Bool.not_eq_false' _) hD)
      refine gy rfl <| vl (fa underlying30 rfl Ty.z26 rfl) <| gy rfl <| vl (ldO hK Ty.o26 0 rfl rfl rfl) <| gy rfl <| ?_
      refine cl call60 rfl (ascendingPositions_c hK (by assumption)) ?_
      rintro _ w ⟨rfl, hK⟩
      refine gy rfl <| vl (ntB rfl) <| vl (pk rfl) <| nl <| thn <| ?_
      refine cdB rfl (fun hF => ?_) fun hF => ?_
      ·have hF' := not_dec (Eq.mp (Bool.not_eq_true' _) hF)
       refine sq <| rg <| ?_
       refine vl (aB rfl) <| nl <| thn <| rt <| thr <| p1r (a := .bool _) rfl <| ?_
       exact ⟨by rw [dec_f]; intro h; exact hF' h.2.2.2.2.2.1, (K.vle hK hG1).drop1.drop1⟩
      ·have hF' := of_dec (Eq.mp (Bool.not_eq_false' _) hF)
       refine sk <| thn <| sq <| sq <| rg <| ?_
       refine vl (fa underlying30 rfl Ty.z25 rfl) <| vl (ldO hK Ty.o25 0 rfl rfl rfl) <| ?_
       refine cl call61 rfl (containsFuncI_c (cap := []) (q := fun x => decide (¬ (0 ≤ x.2 ∧ x.2 ≤ 99))) call62 hK hz (fun x w hK => WorldValid1_c hK)) ?_
       rintro _ w ⟨rfl, hK⟩
       refine nl <| thn <| ?_
       refine cdB rfl (fun hI => ?_) fun hI => ?_
       ·refine sq <| rg <| ?_
        refine vl (aB rfl) <| nl <| thn <| rt <| thr <| p1r (a := .bool _) rfl <| ?_
        obtain ⟨x, hx, hx2⟩ := List.any_eq_true.1 hI
        exact ⟨by rw [dec_f]; intro h; exact of_decide_eq_true hx2 (h.2.2.2.1.1 x hx), (K.vle hK hG1).drop1.drop1⟩
       ·have hI' : ∀ x ∈ items, 0 ≤ x.2 ∧ x.2 ≤ 99 := fun x hx => Decidable.not_not.1 (of_decide_eq_false (by have := List.any_eq_false.1 hI x hx; simpa using this))
        refine sk <| thn <| sq <| sq <| rg <| ?_
        refine vl (fa underlying30 rfl Ty.z26 rfl) <| vl (ldO hK Ty.o26 0 rfl rfl rfl) <| vl (ln underlying26 rfl hs.len) <| vl (mI rfl) <| nl <| thn <| bk <| ?_
        refine lp (σ := Nat) (fun i => [(1, .pointer (some ⟨b1, 0, none⟩)), (3, u), (47, ws), (48, .int .i64 (since.length : Int)), (49, .int .i64 (i : Int))]) (fun i w => i ≤ since.length ∧ (∀ k ∈ since.take i, k ∈ keys items ∧ (k < wx → k ∈ told)) ∧ K e w G1 ((b1, row (wc ⟨wn, wr, wl, wi, wx, wt, ws⟩) 30) :: (b11, row [.int .i64 wn] 3) :: L)) (fun i => since.length - i) 0 ⟨rfl, rfl, rfl, rfl, rfl, trivial⟩ ⟨Nat.zero_le _, by simp, hK⟩ ?_
        rintro i g w ⟨hi, ha, hK⟩
        refine sq <| rg <| ?_
        refine vl (lt rfl rfl) <| nl <| thn <| sq <| ?_
        refine cdP rfl (fun hc => ?_) fun hc => ?_
        ·have hi' : i < since.length := by omega
         refine sk <| thn <| sq <| bk <| sq <| rg <| ?_
         refine vl (ixn1 underlying26 Ty.s3 rfl hs.1 rfl om) <| vl (ldV hK Ty.o3 rfl (hs.at om)) <| vl (aI rfl) <| nl <| thn <| sq <| rg <| vl mv <| vl (mI rfl) <| ?_
         refine cl call64 rfl (contains_c hK hu) ?_
         rintro _ w ⟨rfl, hK⟩
         refine vl (nt rfl) <| vl (mB rfl) <| ?_
         refine splP (t := 57) rfl (fun h1 => ?_) fun h1 => ?_
         ·refine gn rfl <| gn rfl <| gn rfl <| gn rfl <| gn rfl <| gn rfl <| gu rfl <| gu rfl <| gu rfl <| gu rfl <| gu rfl <| gu rfl <| gn rfl <| vl (pk rfl) <| nl <| thn <| ?_
          refine cdt rfl ?_
          refine sq <| rg <| ?_
          refine vl (aB rfl) <| nl <| thn <| rt <| bkr <| thr <| thr <| bkr <| thr <| p1r (a := .bool _) rfl <| ?_
          exact ⟨by rw [dec_f]; intro h; exact h1 (h.2.2.2.2.2.2 _ (List.getElem_mem hi')).1, (K.vle hK hG1).drop1.drop1⟩
         ·have h1' : since[i] ∈ keys items := Decidable.not_not.1 h1
          refine gy rfl <| vl (mI rfl) <| gy rfl <| vl (fa underlying30 rfl Ty.z28 rfl) <| gy rfl <| vl (fa underlying28 rfl Ty.z3 rfl) <| gy rfl <| vl (ldO hK Ty.o3 0 rfl rfl rfl) <| gy rfl <| vl (lt rfl rfl) <| gy rfl <| vl (mB rfl) <| ?_
          refine splP (t := 63) rfl (fun h2 => ?_) fun h2 => ?_
          ·refine gy rfl <| vl (fa underlying30 rfl Ty.z28 rfl) <| gy rfl <| vl (fa underlying28 rfl Ty.z26 rfl) <| gy rfl <| vl (ldO hK Ty.o26 0 rfl rfl rfl) <| gy rfl <| vl (mI rfl) <| gy rfl <| ?_
           refine cl call64 rfl (contains_c hK ht) ?_
           rintro _ w ⟨rfl, hK⟩
           refine gy rfl <| vl (nt rfl) <| gy rfl <| vl (pk rfl) <| vl (pk rfl) <| nl <| thn <| ?_
           refine cdP rfl (fun h3 => ?_) fun h3 => ?_
           ·refine sq <| rg <| ?_
            refine vl (aB rfl) <| nl <| thn <| rt <| bkr <| thr <| thr <| bkr <| thr <| p1r (a := .bool _) rfl <| ?_
            exact ⟨by rw [dec_f]; intro h; exact h3 ((h.2.2.2.2.2.2 _ (List.getElem_mem hi')).2 h2), (K.vle hK hG1).drop1.drop1⟩
           ·refine sk <| bkn <| thn <| rg <| ?_
            refine vl (ad rfl rfl) <| vl (mI rfl) <| nl <| thn <| ?_
            exact ⟨i + 1, ⟨rfl, rfl, rfl, rfl, rfl, trivial⟩, ⟨hi', all_snoc hi' ha ⟨h1', fun _ => Decidable.not_not.1 h3⟩, hK⟩, by omega⟩
          ·refine gn rfl <| gn rfl <| gn rfl <| gn rfl <| gn rfl <| gn rfl <| gy rfl <| vl (pk rfl) <| vl (pk rfl) <| nl <| thn <| ?_
           refine cdf rfl ?_
           refine sk <| bkn <| thn <| rg <| ?_
           refine vl (ad rfl rfl) <| vl (mI rfl) <| nl <| thn <| ?_
           exact ⟨i + 1, ⟨rfl, rfl, rfl, rfl, rfl, trivial⟩, ⟨hi', all_snoc hi' ha ⟨h1', fun h => absurd h h2⟩, hK⟩, by omega⟩
        ·have hi' : i = since.length := by omega
         subst hi'
         rw [List.take_length] at ha
         refine ex <| the <| the <| bkh <| thn <| sq <| rg <| ?_
         refine vl (aB rfl) <| nl <| thn <| rt <| p1r (a := .bool _) rfl <| ?_
         exact ⟨by rw [dec_t ⟨hA', hB', hC', ⟨hI', hD'⟩, hE', hF', ha⟩], (K.vle hK hG1).drop1.drop1⟩
end
open Go Go.Ro Tryz
section
variable {e w : World} {G : View} {L A : Own} {v u : Value} {xs ys : List Int} {ls : List Ls} {rs : List Rn} {zs : List It} {W : Wv} {wd : Wd} {a b k id other : Int} {i j bk o : Nat}
theorem live_c (hK : K e w G L) (hc : ∀ j u, (wc W)[j]? = some u → cellV G ⟨bk, o + j, none⟩ = some u) (hr : RngS G W.r rs) :
  Ret prog 99 #[.pointer (some ⟨bk, o, none⟩), .int .i64 k] w (fun r w' => r = .bool (decide (k ∈ ids (rgl rs))) ∧ K e w' G L) := by
 refine enter1 (args := [.pointer (some ⟨bk, o, none⟩), .int .i64 k]) func99 rfl rfl rfl rfl ?_
 refine sq <| rg <| ?_
 refine vl (aB rfl) <| nl <| thn <| sq <| rg <| vl mv <| vl (nc rfl) <| vl (fa underlying30 rfl Ty.z23 rfl) <| vl (ldV hK Ty.o23 rfl (hc 1 _ rfl)) <| vl (mI rfl) <| ?_
 refine cl call105 rfl (nodeAt_c hK hr) ?_
 rintro _ w ⟨rfl, hK⟩
 refine vl (nePn underlying116 rfl rfl) <| vl (aB rfl) <| nl <| thn <| rt <| p1r (a := .bool _) rfl <| ?_
 exact ⟨congrArg Value.bool (Bool.eq_iff_iff.2 (by rw [nAt_some]; simp)), hK⟩
theorem ownerA_c (hK : K e w G L) (hc : ∀ j u, (wc W)[j]? = some u → cellV G ⟨bk, o + j, none⟩ = some u) (hW : WdS G lc W wd rs) (hok : LsOk wd.leases) :
  Ret prog 50 #[.pointer (some ⟨bk, o, none⟩), .int .i64 k] w (fun r w' => ∃ n, r = .int .i64 n ∧ (Pt k → n = own wd k) ∧ (¬ Pt k → n = -1) ∧ K e w' G L) := by
 have hr := hW.ring
 have hl := hW.leases
 have e1 := hW.now
 have e2 := hW.rg
 refine enter1 (args := [.pointer (some ⟨bk, o, none⟩), .int .i64 k]) func50 rfl rfl rfl rfl ?_
 refine sq <| rg <| ?_
 refine vl (aI rfl) <| nl <| thn <| sq <| rg <| vl mv <| vl (nc rfl) <| vl (fa underlying30 rfl Ty.z24 rfl) <| vl (ldV hK Ty.o24 rfl (hc 2 _ rfl)) <| vl (mI rfl) <| ?_
 refine cl call98 rfl (LeaseOf_c hK hl) ?_
 rintro _ w ⟨⟨b, x, rfl, hb, hx⟩, hK⟩
 refine vl mv <| vl (ext rfl rfl) <| vl (ext rfl rfl) <| ?_
 refine al hK Ty.i105 rfl ?_
 intro b5 w hK
 refine soS hK Ty.i105 0 rfl rfl rfl rfl rfl rfl ?_
 intro w hK
 refine vl (aB rfl) <| nl <| thn <| sq <| sq <| ?_
 refine rgq (fun w => K _ w _ _) Ty.mixed kr (hK.drawn _) ?_
 refine qv (fun w hK => (mB rfl)) <| qv (fun w hK => (ntB rfl)) <| qv (fun w hK => (mB rfl)) <| ?_
 refine qspl (t := 18) rfl (fun h1 => ?_) fun h1 => ?_
 ·have h1' := Eq.mp (Bool.not_eq_true' _) h1
  refine qgn rfl <| qgn rfl <| qgn rfl <| qgn rfl <| qgn rfl <| qgn rfl <| qgn rfl <| qv (fun w hK => (pk rfl)) <| qv (fun w hK => (mB rfl)) <| qgn rfl <| qgn rfl <| qgn rfl <| qgn rfl <| qgn rfl <| qv (fun w hK => (pk rfl)) <| qn <| ?_
  intro w hK
  refine thn <| ?_
  refine cdt rfl ?_
  refine sq <| rg <| ?_
  refine vl (aI rfl) <| nl <| thn <| rt <| thr <| p1r (a := .int _ _) rfl <| ?_
  exact ⟨_, rfl, (fun h => absurd (hb.2 ⟨hok, h⟩) (by rw [h1']; simp)), fun _ => rfl, hK.drop1⟩
 ·have h1' := hb.1 (Eq.mp (Bool.not_eq_false' _) h1)
  obtain rfl := hx h1'.1 h1'.2
  refine qgy rfl <| qv (fun w hK => (fa underlying105 rfl Ty.z3 rfl)) <| qgy rfl <| qldO Ty.o3 0 rfl rfl rfl <| qgy rfl <| qv (fun w hK => mv) <| qgy rfl <| qv (fun w hK => (nc rfl)) <| qgy rfl <| qv (fun w hK => (fa underlying30 rfl Ty.z3 rfl)) <| qgy rfl <| qldV Ty.o3 rfl (hc 0 _ rfl) <| qgy rfl <| qv (fun w hK => (lt rfl rfl)) <| qv (fun w hK => (pk rfl)) <| qv (fun w hK => (mB rfl)) <| ?_
  refine qsplP (t := 27) rfl (fun h2 => ?_) fun h2 => ?_
  ·refine qgn rfl <| qgn rfl <| qgn rfl <| qgn rfl <| qgn rfl <| qv (fun w hK => (pk rfl)) <| qn <| ?_
   intro w hK
   refine thn <| ?_
   refine cdt rfl ?_
   refine sq <| rg <| ?_
   refine vl (aI rfl) <| nl <| thn <| rt <| thr <| p1r (a := .int _ _) rfl <| ?_
   exact ⟨_, rfl, fun _ => (if_pos (.inl (by omega))).symm, fun h => absurd h1'.2 h, hK.drop1⟩
  ·refine qgy rfl <| qv (fun w hK => mv) <| qgy rfl <| qv (fun w hK => (fa underlying105 rfl Ty.z3 rfl)) <| qgy rfl <| qldO Ty.o3 0 rfl rfl rfl <| qgy rfl <| ?_
   refine qcl call99 rfl (fun w hK => live_c hK hc hr) ?_
   refine qgy rfl <| qv (fun w hK => (nt rfl)) <| qv (fun w hK => (pk rfl)) <| qn <| ?_
   intro w hK
   refine thn <| ?_
   refine cdP rfl (fun h3 => ?_) fun h3 => ?_
   ·refine sq <| rg <| ?_
    refine vl (aI rfl) <| nl <| thn <| rt <| thr <| p1r (a := .int _ _) rfl <| ?_
    exact ⟨_, rfl, fun _ => (if_pos (.inr (by rw [← e2]; exact h3))).symm, fun h => absurd h1'.2 h, hK.drop1⟩
   ·refine sk <| thn <| sq <| rg <| ?_
    refine vl (fa underlying105 rfl Ty.z3 rfl) <| vl (ldO hK Ty.o3 0 rfl rfl rfl) <| vl (aI rfl) <| nl <| thn <| rt <| p1r (a := .int _ _) rfl <| ?_
    exact ⟨_, rfl, fun _ => (if_neg (by rw [← e2]; rintro (h | h); omega; exact h3 h)).symm, fun h => absurd h1'.2 h, hK.drop1⟩
theorem WdS.one (hW : WdS G lc W wd rs) : (wc W).all Ro.one = true := allc rfl (allc hW.ring.sl.1.one (allc hW.leases.1.one (allc hW.items.1.one (allc rfl (allc hW.told.1.one (allc hW.since.1.one rfl))))))
theorem l51Owner_c (hK : K e w G L) (hW : WdS G lc W wd rs) (h0 : 0 < wd.leases.length) : Ret prog 73 #[.agg (wc W).toArray, .int .i64 k] w (fun r w' => r = .int .i64 (own wd k) ∧ K e w' G L) := by
 have hr := hW.ring
 have hl := hW.leases
 have e1 := hW.now
 have e2 := hW.rg
 have hlt := lAt_lt (ls := wd.leases) (k := k) h0
 have hat := lsAt_eq hlt
 refine enter1 (args := [.agg (wc W).toArray, .int .i64 k]) func73 rfl rfl rfl rfl ?_
 refine sq <| rg <| ?_
 refine bx hK rfl rfl ?_
 intro b2 w hK
 refine vl (aI rfl) <| nl <| thn <| sq <| ?_
 refine ct (σ := Nat) (fun s => [(2, .pointer (some ⟨b2, 0, none⟩)), (5, .pointer (some ⟨s, 0, none⟩))]) (fun s w => K e w G ((s, row (lc (lsAt wd.leases k)) 105) :: (b2, row (wc W) 30) :: L)) ?_ ?_
 ·skip
  refine rgs (fun w => K e w G ((b2, row (wc W) 30) :: L)) (fun w => K _ w _ _) [U,U,U,U,U,U,U,U,U,U] 10 Ty.mixed rfl rfl (hK.drawn _) ?_
  intro w hK
  have hS : (fun w => K e w G ((b2, row (wc W) 30) :: L)) w := K.sl hK
  refine xt (i := 0) rfl kr rfl rfl (fun w hK => (fa underlying30 rfl Ty.z24 rfl)) hS <| xt (i := 1) rfl kr rfl rfl (fun w hK => (ldO hK Ty.o24 0 rfl rfl rfl)) hS <| xt (i := 2) rfl kr rfl rfl (fun w hK => (fa underlying30 rfl Ty.z24 rfl)) hS <| xt (i := 3) rfl kr rfl rfl (fun w hK => (ldO hK Ty.o24 0 rfl rfl rfl)) hS <| xt (i := 4) rfl kr rfl rfl (fun w hK => (mI rfl)) hS <| ?_
  refine xe2 (i := 5) (j := 8) kr rfl rfl rfl rfl ?_ ?_
  ·skip
   refine cl call115 rfl (l12At_c hK hl) ?_
   rintro _ w ⟨rfl, hK⟩
   refine xnk (K.sl hK) fun hS => ?_
   refine xt (i := 6) rfl kr rfl rfl (fun w hK => (ixm (m := lAt wd.leases k) underlying24 Ty.s105 rfl hl.1 rfl om om)) hS <| xt (i := 7) rfl kr rfl rfl (fun w hK => (lsF hK Ty.a105 Ty.s105 rfl hl om)) hS <| ?_
   refine xe (i := 8) kr rfl rfl ?_
   refine al hK Ty.i105 rfl ?_
   intro b5 w hK
   refine xnk (K.sl hK) fun hS => ?_
   refine xe (i := 9) kr rfl rfl ?_
   refine soS hK Ty.i105 0 rfl rfl rfl rfl rfl rfl ?_
   intro w hK
   refine xnk (K.sl hK) fun hS => ?_
   refine xd kr <| ctn <| ?_
   exact ⟨b5, ⟨rfl, rfl, trivial⟩, by rw [← hat]; exact hK⟩
  ·refine al hK Ty.i105 rfl ?_
   intro b5 w hK
   refine xnk (K.sl hK) fun hS => ?_
   refine xe (i := 5) kr rfl rfl ?_
   refine cl call115 rfl (l12At_c hK hl) ?_
   rintro _ w ⟨rfl, hK⟩
   refine xnk (K.sl hK) fun hS => ?_
   refine xt (i := 6) rfl kr rfl rfl (fun w hK => (ixm (m := lAt wd.leases k) underlying24 Ty.s105 rfl hl.1 rfl om om)) hS <| xt (i := 7) rfl kr rfl rfl (fun w hK => (lsF hK Ty.a105 Ty.s105 rfl hl om)) hS <| ?_
   refine xe (i := 9) kr rfl rfl ?_
   refine soS hK Ty.i105 0 rfl rfl rfl rfl rfl rfl ?_
   intro w hK
   refine xnk (K.sl hK) fun hS => ?_
   refine xd kr <| ctn <| ?_
   exact ⟨b5, ⟨rfl, rfl, trivial⟩, by rw [← hat]; exact hK⟩
 ·rintro b5 g w hK
  refine thn <| sq <| sq <| rg <| ?_
  refine vl (fa underlying105 rfl Ty.z3 rfl) <| vl (ldO hK Ty.o3 0 rfl rfl rfl) <| vl (fa underlying30 rfl Ty.z3 rfl) <| vl (ldO hK Ty.o3 1 rfl rfl rfl) <| vl (lt rfl rfl) <| vl (mB rfl) <| ?_
  refine splP (t := 19) rfl (fun h2 => ?_) fun h2 => ?_
  ·refine gn rfl <| gn rfl <| gn rfl <| gn rfl <| gn rfl <| gn rfl <| vl (pk rfl) <| nl <| thn <| ?_
   refine cdt rfl ?_
   refine sq <| rg <| ?_
   refine vl (aI rfl) <| nl <| thn <| rt <| thr <| p1r (a := .int _ _) rfl <| ?_
   refine ⟨?_, hK.drop1.drop1⟩
   exact congrArg (Value.int .i64) (if_pos (.inl (by omega))).symm
  ·refine gy rfl <| vl (fa underlying30 rfl Ty.z23 rfl) <| gy rfl <| vl (ldO hK Ty.o23 1 rfl rfl rfl) <| gy rfl <| vl (fa underlying105 rfl Ty.z3 rfl) <| gy rfl <| vl (ldO hK Ty.o3 0 rfl rfl rfl) <| gy rfl <| ?_
   refine cl call116 rfl (l3Find_c hK hr) ?_
   rintro _ w ⟨rfl, hK⟩
   refine gy rfl <| vl (lt rfl rfl) <| vl (pk rfl) <| nl <| thn <| ?_
   refine cdP rfl (fun h3 => ?_) fun h3 => ?_
   ·have h3' : (lsAt wd.leases k).2.1 ∉ ids (rgl rs) := fun h => by have := fI_ge.2 h; omega
    refine sq <| rg <| ?_
    refine vl (aI rfl) <| nl <| thn <| rt <| thr <| p1r (a := .int _ _) rfl <| ?_
    refine ⟨?_, hK.drop1.drop1⟩
    exact congrArg (Value.int .i64) (if_pos (.inr (by rw [← e2]; exact h3'))).symm
   ·have h3' : (lsAt wd.leases k).2.1 ∈ ids (rgl rs) := fI_ge.1 (by omega)
    refine sk <| thn <| sq <| rg <| ?_
    refine vl (fa underlying105 rfl Ty.z3 rfl) <| vl (ldO hK Ty.o3 0 rfl rfl rfl) <| vl (aI rfl) <| nl <| thn <| rt <| p1r (a := .int _ _) rfl <| ?_
    refine ⟨?_, hK.drop1.drop1⟩
    exact congrArg (Value.int .i64) (if_neg (by rw [← e2]; rintro (h | h); omega; exact h h3')).symm
end
end Go.Proofs.YtmfolinemnlnbaaGreatDoor
