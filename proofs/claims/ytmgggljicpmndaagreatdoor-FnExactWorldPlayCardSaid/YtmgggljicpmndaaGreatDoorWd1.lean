/- Contracts of the specification's events of a world: rings and scans. Conditions: those that each row states. -/
import Derived.Test.YtmgggljicpmndaaGreatDoorWc
namespace Go.Proofs.YtmgggljicpmndaaGreatDoor
open Go Go.Ro Tryz
section
variable {e w : World} {G : View} {L A : Own} {v u : Value} {xs ys : List Int} {ls ms : List Ls} {rs qs : List Rn} {zs ts : List It} {W W' : Wv} {wd wd' : Wd} {a b c k kd id other : Int} {i j bk o : Nat}
def ec (kd a b c : Int) : List Value := [.int .i64 kd, .int .i64 a, .int .i64 b, .int .i64 c]
theorem l51Without_c (hK : K e w G L) (hv : IntS G v xs) (hl : xs.length ≤ 100000) : Ret prog 105 #[v, .int .i64 k] w (fun r w' => ∃ A, OS 1 3 r (xs.filter (fun x => decide (x ≠ k))).length (ints (xs.filter (fun x => decide (x ≠ k)))) A ∧ K e w' G (A ++ L)) := by
 refine enter1 (args := [v, .int .i64 k]) func105 rfl rfl rfl rfl ?_
 refine sq <| rg <| ?_
 refine vl asg <| nl <| thn <| sq <| rg <| ?_
 refine bs0 hK underlying22 Ty.i3 ?_
 intro b7 w hK
 refine vl asg <| nl <| thn <| sq <| sq <| rg <| vl (aI rfl) <| nl <| thn <| bk <| ?_
 refine lp (σ := Nat × Value × Own) (fun s => [(0, v), (1, .int .i64 k), (5, s.2.1), (6, .int .i64 (s.1 : Int))]) (fun s w => s.1 ≤ xs.length ∧ OS 1 3 s.2.1 ((xs.take s.1).filter (fun x => decide (x ≠ k))).length (ints ((xs.take s.1).filter (fun x => decide (x ≠ k)))) s.2.2 ∧ K e w G (s.2.2 ++ L)) (fun s => xs.length - s.1) (0, .slice (some ⟨b7, 0, none⟩) 0 0, [(b7, row [] 3)]) ⟨rfl, rfl, rfl, rfl, trivial⟩ ⟨Nat.zero_le _, OS.none, hK⟩ ?_
 rintro ⟨i, u, A⟩ g w ⟨hi, ho, hK⟩
 simp only at hi ho hK
 refine sq <| sq <| rg <| ?_
 refine vl (mI rfl) <| vl mv <| vl (ln underlying22 rfl hv.len) <| vl (lt rfl rfl) <| nl <| thn <| ?_
 refine cdP rfl (fun hc => ?_) fun hc => ?_
 ·have hi' : i < xs.length := by simp only at hc; omega
  have hfl : ((xs.take i).filter (fun x => decide (x ≠ k))).length ≤ i := Nat.le_trans (List.length_filter_le _ _) (by simp; omega)
  have hts := filter_take_succ (p := fun x => decide (x ≠ k)) hi'
  refine sk <| thn <| sq <| bk <| sq <| rg <| ?_
  refine vl mv <| vl (mI rfl) <| vl (ixn1 underlying22 Ty.s3 rfl hv.1 rfl om) <| vl (ldV hK Ty.o3 rfl (hv.at om)) <| vl (mI rfl) <| vl (ne rfl rfl) <| nl <| thn <| ?_
  refine cdP rfl (fun h1 => ?_) fun h1 => ?_
  ·rw [if_pos (decide_eq_true h1)] at hts
   refine rg <| ?_
   refine vl mv <| vl mv <| vl (mI rfl) <| vl (ixn1 underlying22 Ty.s3 rfl hv.1 rfl om) <| vl (ldV hK Ty.o3 rfl (hv.at om)) <| ?_
   refine bsN [.tmp 24] hK underlying22 Ty.i3 rfl rfl rfl rfl rfl rfl rfl rfl ?_
   intro b25 w hK
   refine apI1 (k := xs[i]) hK underlying22 Ty.i3 rfl rfl ho rfl om fun v' A' w ho hK => ?_
   refine vl asg <| nl <| bkn <| thn <| rg <| vl (mI rfl) <| vl (ad rfl rfl) <| vl (aI rfl) <| nl <| thn <| ?_
   exact ⟨(i + 1, v', A'), ⟨rfl, rfl, rfl, rfl, trivial⟩, ⟨hi', by simp only; rw [hts]; exact ho, hK⟩, by simp only; omega⟩
  ·rw [if_neg (by simpa using h1), List.append_nil] at hts
   refine sk <| bkn <| thn <| rg <| ?_
   refine vl (mI rfl) <| vl (ad rfl rfl) <| vl (aI rfl) <| nl <| thn <| ?_
   exact ⟨(i + 1, u, A), ⟨rfl, rfl, rfl, rfl, trivial⟩, ⟨hi', by simp only; rw [hts]; exact ho, hK⟩, by simp only; omega⟩
 ·have hi' : i = xs.length := by simp only at hc; omega
  subst hi'
  refine ex <| the <| the <| bkh <| thn <| sq <| rg <| ?_
  refine vl mv <| vl asg <| nl <| thn <| rt <| p1r (a := _) rfl <| ?_
  rw [List.take_length] at ho
  exact ⟨A, ho, hK⟩
def scΨ (bk : Nat) (W : Wv) (wd : Wd) (i : Nat) (s : View × List Value) (u : Value) : Prop :=
 match i with
 | 1 => u = W.l
 | 3 => u = W.i
 | 4 => IntS s.1 u (keys wd.items)
 | 6 => u = .agg #[.int .i64 W.next, W.t]
 | 7 => ∃ t, u = .agg #[.int .i64 (stp wd.leases (keys wd.items) (W.next, wd.scan.2)).1, t] ∧ IntS s.1 t (stp wd.leases (keys wd.items) (W.next, wd.scan.2)).2
 | 8 => u = .pointer (some ⟨bk, 4, none⟩)
 | 9 => ∃ t, s.2 = wc { W with next := (stp wd.leases (keys wd.items) (W.next, wd.scan.2)).1, t := t } ∧ IntS s.1 t (stp wd.leases (keys wd.items) (W.next, wd.scan.2)).2
 | _ => True
theorem scΨ.mono {bk : Nat} {W : Wv} {wd : Wd} {G G' : View} {cs : List Value} (hG : VLe G G') : ∀ (i : Nat) (u : Value), scΨ bk W wd i (G, cs) u → scΨ bk W wd i (G', cs) u := by
 intro i u h
 unfold scΨ at h ⊢
 split at h
 all_goals first
  | exact h
  | exact IntS.mono h hG
  | (obtain ⟨t, h1, h2⟩ := h; exact ⟨t, h1, IntS.mono h2 hG⟩)
theorem scΨ.cs {bk : Nat} {W : Wv} {wd : Wd} {G : View} {cs cs' : List Value} : ∀ (i : Nat) (u : Value), i ≠ 9 → scΨ bk W wd i (G, cs) u → scΨ bk W wd i (G, cs') u := by
 intro i u hi h
 unfold scΨ at h ⊢
 split at h
 all_goals first
  | exact h
  | exact absurd rfl hi
theorem l51Scan_c (hK : K e w G L) (hW : WdS G lc W wd rs) (hok : LsOk wd.leases) (hks : Asc (keys wd.items)) (hsn : SnOk wd.scan) (hzl : wd.items.length ≤ 1000000) :
  Ret prog 59 #[.agg (wc W).toArray] w (fun r w' => ∃ G' W', VLe G G' ∧ r = .agg (wc W').toArray ∧ WdS G' lc W' (scW wd) rs ∧ K e w' G' L) := by
 have hlt : 0 < wd.leases.length := by have := hok.1; omega
 have e3 := hW.next
 refine enterG1 (args := [.agg (wc W).toArray]) func59 rfl rfl rfl rfl ?_
 refine sq <| rg <| ?_
 refine bx hK rfl rfl ?_
 intro b1 w hK
 refine al hK Ty.i31 rfl ?_
 intro b2 w hK
 refine nl <| thn <| sq <| sq <| ?_
 refine ct (σ := Bool) (fun s => [(1, .pointer (some ⟨b1, 0, none⟩)), (2, .pointer (some ⟨b2, 0, none⟩)), (14, .bool s)]) (fun s w => (s = true ↔ W.next < 64 ∧ 0 ≤ own wd W.next) ∧ K e w G ((b2, row [.int .i64 0, .slice none 0 0, .slice none 0 0, .slice none 0 0, .int .i64 0, .slice none 0 0, .slice none 0 0] 31) :: (b1, row (wc W) 31) :: L)) ?_ ?_
 ·refine rg <| ?_
  refine vl (fa underlying31 rfl Ty.z29 rfl) <| vl (fa underlying29 rfl Ty.z3 rfl) <| vl (ldO hK Ty.o3 1 rfl rfl rfl) <| vl (lt rfl rfl) <| vl (mB rfl) <| ?_
  refine splP (t := 7) rfl (fun h1 => ?_) fun h1 => ?_
  ·refine gy rfl <| vl (lsO hK Ty.a31 Ty.s31 1 rfl rfl rfl) <| gy rfl <| vl (fa underlying31 rfl Ty.z29 rfl) <| gy rfl <| vl (fa underlying29 rfl Ty.z3 rfl) <| gy rfl <| vl (ldO hK Ty.o3 1 rfl rfl rfl) <| gy rfl <| ?_
   refine cl call100 rfl (l51Owner_c hK hW hlt) ?_
   rintro _ w ⟨rfl, hK⟩
   refine gy rfl <| vl (ge rfl rfl) <| vl (pk rfl) <| nl <| ctn <| ?_
   exact ⟨_, ⟨rfl, rfl, rfl, trivial⟩, by simp [h1], hK⟩
  ·refine gn rfl <| gn rfl <| gn rfl <| gn rfl <| gn rfl <| gn rfl <| vl (pk rfl) <| nl <| ctn <| ?_
   exact ⟨_, ⟨rfl, rfl, rfl, trivial⟩, by simp [h1], hK⟩
 ·rintro s g w ⟨hs, hK⟩
  refine thn <| ?_
  refine cdB rfl (fun h2 => ?_) fun h2 => ?_
  ·have h2' := hs.1 h2
   have hsn' : SnOk (W.next, wd.scan.2) := by rw [e3]; exact hsn
   refine ct (σ := View × Value) (fun s => [(1, .pointer (some ⟨b1, 0, none⟩)), (2, .pointer (some ⟨b2, 0, none⟩))]) (fun s w => VLe G s.1 ∧ IntS s.1 s.2 (stp wd.leases (keys wd.items) (W.next, wd.scan.2)).2 ∧ K e w s.1 ((b2, row [.int .i64 0, .slice none 0 0, .slice none 0 0, .slice none 0 0, .int .i64 0, .slice none 0 0, .slice none 0 0] 31) :: (b1, row (wc { W with next := (stp wd.leases (keys wd.items) (W.next, wd.scan.2)).1, t := s.2 }) 31) :: L)) ?_ ?_
   ·skip
    refine rgs (fun w => K e w G L) (fun w => K _ w _ _) [U,U,U,U,U,U,U,U,U,U] 10 Ty.mixed rfl rfl (hK.drawn _) ?_
    intro w hK
    have hS : (fun w => K e w G L) w := K.sl hK
    refine xt (i := 0) rfl kr rfl rfl (fun w hK => (fa underlying31 rfl Ty.z26 rfl)) hS <| xt (i := 2) rfl kr rfl rfl (fun w hK => (fa underlying31 rfl Ty.z27 rfl)) hS <| xt (i := 5) rfl kr rfl rfl (fun w hK => (fa underlying31 rfl Ty.z29 rfl)) hS <| ?_
    refine forgetF (p := fun f0 => WX _ _ _ _ _ _ _ f0 w) [(1, .pointer (some ⟨b1, 0, none⟩)), (2, .pointer (some ⟨b2, 0, none⟩)), (15, .pointer (some ⟨b1, 2, none⟩)), (17, .pointer (some ⟨b1, 3, none⟩)), (20, .pointer (some ⟨b1, 4, none⟩))] ⟨rfl, rfl, rfl, rfl, rfl, trivial⟩ ?_
    rintro f0 ⟨k1, k2, k15, k17, k20, _⟩
    refine anyO (σ := View × List Value) (J := fun l s w => VLe G s.1 ∧ (l[9]? ≠ some true → s.2 = wc W) ∧ s.2.length = 7 ∧ K e w s.1 ((b2, row [.int .i64 0, .slice none 0 0, .slice none 0 0, .slice none 0 0, .int .i64 0, .slice none 0 0, .slice none 0 0] 31) :: (b1, row s.2 31) :: L)) (Ψ := scΨ b1 W wd) (D := [16, 18, 19, 21, 22, 23, 9009]) (d := fun i => [9100, 16, 9102, 18, 19, 9105, 21, 22, 23, 9009].getD i 0) kr (fun i _ hi => by have h := falses (r := [1, 3, 4, 6, 7, 8, 9]) (by decide) hi; revert i; decide) (fun i j hi hj _ he => getD_inj (by decide) hi hj he) (fun _ _ _ ⟨hG, _, _, hK⟩ => K.vle hK.drop1.drop1 hG) ?_ ?_ _ _ _ _ (G, wc W) rfl (by decide) (fun _ h => h) ?_ (fun _ _ => rfl) ?_ ⟨VLe.refl _, (fun _ => rfl), rfl, hK⟩
    ·intro i hi
     have h := falses (r := [1, 3, 4, 6, 7, 8, 9]) (by decide) hi
     simp only [List.mem_cons, List.not_mem_nil, or_false] at h
     rcases h with rfl | rfl | rfl | rfl | rfl | rfl | rfl
     ·intro o ho l s f w hln hun hcl hb hp hJ hdep R hR
      obtain rfl := Option.some.inj ho
      obtain ⟨hG, h9, h7, hK⟩ := hJ
      obtain ⟨G1, cs⟩ := s
      simp only at hG h9 h7 hK
      have hn9 : l[9]? ≠ some true := fun h => by
       have := hcl 9 _ rfl h ⟨1, .phase⟩ (by simp) rfl
       rw [hun] at this; cases this
      obtain rfl := h9 hn9
      refine vl (ldO hK Ty.o26 1 rfl ((hb 15 (by decide)).trans k15) rfl) (nl (hR _ _ (G1, wc W) (fun x hx => upd_ne' hx) rfl (fun j u _ h => h) ⟨hG, (fun _ => rfl), h7, hK⟩))
     ·intro o ho l s f w hln hun hcl hb hp hJ hdep R hR
      obtain rfl := Option.some.inj ho
      obtain ⟨hG, h9, h7, hK⟩ := hJ
      obtain ⟨G1, cs⟩ := s
      simp only at hG h9 h7 hK
      have hn9 : l[9]? ≠ some true := fun h => by
       have := hcl 9 _ rfl h ⟨3, .phase⟩ (by simp) rfl
       rw [hun] at this; cases this
      obtain rfl := h9 hn9
      refine vl (ldO hK Ty.o27 1 rfl ((hb 17 (by decide)).trans k17) rfl) (nl (hR _ _ (G1, wc W) (fun x hx => upd_ne' hx) rfl (fun j u _ h => h) ⟨hG, (fun _ => rfl), h7, hK⟩))
     ·intro o ho l s f w hln hun hcl hb hp hJ hdep R hR
      obtain rfl := Option.some.inj ho
      obtain ⟨hG, h9, h7, hK⟩ := hJ
      obtain ⟨G1, cs⟩ := s
      simp only at hG h9 h7 hK
      have D8 := dep_of hdep [3] rfl
      have h3 : f 18 = W.i := hp 3 (D8 3 (by decide))
      refine cl call58 (by show [f 18] = _; rw [h3]) (l51Keys_c hK (hW.items.mono hG) (by omega)) ?_
      rintro r w ⟨A, ho, hK⟩
      obtain ⟨G2, hG2, hr, hK⟩ := K.pubO hK ho
      exact (nl (hR _ _ (G2, cs) (fun x hx => upd_ne' hx) hr (fun j u _ h => scΨ.mono hG2 j u h) ⟨hG.trans hG2, (fun h => h9 (set_ne h)), h7, hK⟩))
     ·intro o ho l s f w hln hun hcl hb hp hJ hdep R hR
      obtain rfl := Option.some.inj ho
      obtain ⟨hG, h9, h7, hK⟩ := hJ
      obtain ⟨G1, cs⟩ := s
      simp only at hG h9 h7 hK
      have hn9 : l[9]? ≠ some true := fun h => by
       have := hcl 9 _ rfl h ⟨6, .phase⟩ (by simp) rfl
       rw [hun] at this; cases this
      obtain rfl := h9 hn9
      refine vl (lsP (u := [.int .i64 W.next, W.t]) hK Ty.a29 Ty.s29 1 rfl ((hb 20 (by decide)).trans k20) rfl rfl) (nl (hR _ _ (G1, wc W) (fun x hx => upd_ne' hx) rfl (fun j u _ h => h) ⟨hG, (fun _ => rfl), h7, hK⟩))
     ·intro o ho l s f w hln hun hcl hb hp hJ hdep R hR
      obtain rfl := Option.some.inj ho
      obtain ⟨hG, h9, h7, hK⟩ := hJ
      obtain ⟨G1, cs⟩ := s
      simp only at hG h9 h7 hK
      have D8 := dep_of hdep [1, 4, 6, 4] rfl
      have q1 : f 16 = W.l := hp 1 (D8 1 (by decide))
      have q4 : IntS G1 (f 19) (keys wd.items) := hp 4 (D8 4 (by decide))
      have q6 : f 21 = .agg #[.int .i64 W.next, W.t] := hp 6 (D8 6 (by decide))
      refine cl call106 (by show [f 16, f 19, f 21] = _; rw [q1, q6]) (l41Step_c hK (LeaS.mono hW.leases hG) q4 (hW.told.mono hG) hok hks hsn' h2'.1) ?_
      rintro r w ⟨t, A, rfl, ho, hK⟩
      obtain ⟨G2, hG2, hr, hK⟩ := K.pubO hK ho
      exact (nl (hR _ _ (G2, cs) (fun x hx => upd_ne' hx) ⟨t, rfl, hr⟩ (fun j u _ h => scΨ.mono hG2 j u h) ⟨hG.trans hG2, (fun h => h9 (set_ne h)), h7, hK⟩))
     ·intro o ho l s f w hln hun hcl hb hp hJ hdep R hR
      obtain rfl := Option.some.inj ho
      obtain ⟨hG, h9, h7, hK⟩ := hJ
      obtain ⟨G1, cs⟩ := s
      simp only at hG h9 h7 hK
      exact vl (fa underlying31 rfl Ty.z29 ((hb 1 (by decide)).trans k1)) (nl (hR _ _ (G1, cs) (fun x hx => upd_ne' hx) rfl (fun j u _ h => h) ⟨hG, (fun h => h9 (set_ne h)), h7, hK⟩))
     ·intro o ho l s f w hln hun hcl hb hp hJ hdep R hR
      obtain rfl := Option.some.inj ho
      obtain ⟨hG, h9, h7, hK⟩ := hJ
      obtain ⟨G1, cs⟩ := s
      simp only at hG h9 h7 hK
      obtain ⟨t, q1, q2⟩ := hp 7 (hdep ⟨7, .data⟩ (List.mem_cons_of_mem _ (List.mem_cons_self ..)) rfl)
      obtain rfl := h9 (by rw [hun]; simp)
      refine soS hK Ty.i29 1 rfl (hp 8 (hdep ⟨8, .data⟩ (List.mem_cons_self ..) rfl)) q1 rfl (allc rfl (allc q2.1.one rfl)) rfl (fun w hK => nl (hR _ _ (G1, wc { W with next := (stp wd.leases (keys wd.items) (W.next, wd.scan.2)).1, t := t }) (fun _ _ => rfl) ⟨t, rfl, q2⟩ (fun j u hj h => scΨ.cs j u hj h) ⟨hG, (fun h => absurd (by rw [List.getElem?_set_self (by rw [hln]; decide)]) h), rfl, hK⟩))
    ·intro l s f w hall hb hp hJ
     obtain ⟨t, h1, h2⟩ := hp 9 (by decide)
     obtain ⟨G1, cs⟩ := s
     simp only at h1 h2
     subst h1
     exact ⟨(G1, t), ⟨(hb 1 (by decide)).trans k1, (hb 2 (by decide)).trans k2, trivial⟩, hJ.1, h2, hJ.2.2.2⟩
    ·exact clo_of kr
    ·intro i hi
     have h := trues (r := [0, 2, 5]) (by decide) hi
     simp only [List.mem_cons, List.not_mem_nil, or_false] at h
     rcases h with rfl | rfl | rfl <;> trivial
   ·rintro ⟨G2, t⟩ g w ⟨hG2, ht, hK⟩
    have hW' : WdS G2 lc { W with next := (stp wd.leases (keys wd.items) (W.next, wd.scan.2)).1, t := t } (scW wd) rs := by
     have hsc : scW wd = { wd with scan := stp wd.leases (keys wd.items) wd.scan } := if_pos (by rw [← e3]; exact h2')
     have hst : (W.next, wd.scan.2) = wd.scan := by rw [e3]
     rw [hsc]
     rw [hst] at ht ⊢
     exact ⟨hW.now, hW.ring.mono hG2, hW.rg, LeaS.mono hW.leases hG2, hW.items.mono hG2, rfl, ht, hW.since.mono hG2⟩
    refine thn <| sq <| rg <| ?_
    refine vl (lsO hK Ty.a31 Ty.s31 1 rfl rfl rfl) <| ?_
    refine soS hK Ty.i31 0 rfl rfl rfl rfl (WdS.one hW') rfl ?_
    intro w hK
    refine nl <| thn <| rt <| pg1r (rvS hK Ty.a31 Ty.s31 0 rfl rfl rfl) <| ?_
    exact ⟨G2, _, hG2, rfl, hW', hK.drop1.drop1⟩
  ·have hsc : scW wd = wd := if_neg (by rw [← e3]; exact fun h => by rw [hs.2 h] at h2; cases h2)
   refine sk <| thn <| sq <| rg <| ?_
   refine vl (lsO hK Ty.a31 Ty.s31 1 rfl rfl rfl) <| ?_
   refine soS hK Ty.i31 0 rfl rfl rfl rfl (WdS.one hW) rfl ?_
   intro w hK
   refine nl <| thn <| rt <| pg1r (rvS hK Ty.a31 Ty.s31 0 rfl rfl rfl) <| ?_
   rw [hsc]
   exact ⟨G, _, VLe.refl _, rfl, hW, hK.drop1.drop1⟩
end
end Go.Proofs.YtmgggljicpmndaaGreatDoor
