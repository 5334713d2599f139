/- Contracts of the specification's events of a world: rings and scans. Contracts of the specification's events of a world: the ring. Conditions: those that each row states. -/
import Derived.Test.YtbiihblpgfgaoabGreatDoorWc
namespace Go.Proofs.YtbiihblpgfgaoabGreatDoor
open Go Go.Ro Tryz
section
variable {e w : World} {G : View} {L A : Own} {v u : Value} {xs ys : List Int} {ls ms : List Ls} {rs qs : List Rn} {zs ts : List It} {W W' : Wv} {wd wd' : Wd} {a b c k kd id other : Int} {i j bk o : Nat}
def ec (kd a b c : Int) : List Value := [.int .i64 kd, .int .i64 a, .int .i64 b, .int .i64 c]
theorem l51Without_c (hK : K e w G L) (hv : IntS G v xs) (hl : xs.length ≤ 100000) : Ret prog 95 #[v, .int .i64 k] w (fun r w' => ∃ A, OS 1 3 r (xs.filter (fun x => decide (x ≠ k))).length (ints (xs.filter (fun x => decide (x ≠ k)))) A ∧ K e w' G (A ++ L)) := by
 refine enter1 (args := [v, .int .i64 k]) func95 rfl rfl rfl rfl ?_
 refine sq <| rg <| ?_
 refine vl asg <| nl <| thn <| sq <| rg <| ?_
 refine bs0 hK underlying35 Ty.i3 ?_
 intro b7 w hK
 refine vl asg <| nl <| thn <| sq <| sq <| rg <| vl (aI rfl) <| nl <| thn <| bk <| ?_
 refine lp (σ := Nat × Value × Own) (fun s => [(0, v), (1, .int .i64 k), (5, s.2.1), (6, .int .i64 (s.1 : Int))]) (fun s w => s.1 ≤ xs.length ∧ OS 1 3 s.2.1 ((xs.take s.1).filter (fun x => decide (x ≠ k))).length (ints ((xs.take s.1).filter (fun x => decide (x ≠ k)))) s.2.2 ∧ K e w G (s.2.2 ++ L)) (fun s => xs.length - s.1) (0, .slice (some ⟨b7, 0, none⟩) 0 0, [(b7, row [] 3)]) ⟨rfl, rfl, rfl, rfl, trivial⟩ ⟨Nat.zero_le _, OS.none, hK⟩ ?_
 rintro ⟨i, u, A⟩ g w ⟨hi, ho, hK⟩
 simp only at hi ho hK
 refine sq <| sq <| rg <| ?_
 refine vl (mI rfl) <| vl mv <| vl (ln underlying35 rfl hv.len) <| vl (lt rfl rfl) <| nl <| thn <| ?_
 refine cdP rfl (fun hc => ?_) fun hc => ?_
 ·have hi' : i < xs.length := by simp only at hc; omega
  have hfl : ((xs.take i).filter (fun x => decide (x ≠ k))).length ≤ i := Nat.le_trans (List.length_filter_le _ _) (by simp; omega)
  have hts := filter_take_succ (p := fun x => decide (x ≠ k)) hi'
  refine sk <| thn <| sq <| bk <| sq <| rg <| ?_
  refine vl mv <| vl (mI rfl) <| vl (ixn1 underlying35 Ty.s3 rfl hv.1 rfl om) <| vl (ldV hK Ty.o3 rfl (hv.at om)) <| vl (mI rfl) <| vl (ne rfl rfl) <| nl <| thn <| ?_
  refine cdP rfl (fun h1 => ?_) fun h1 => ?_
  ·rw [if_pos (decide_eq_true h1)] at hts
   refine rg <| ?_
   refine vl mv <| vl mv <| vl (mI rfl) <| vl (ixn1 underlying35 Ty.s3 rfl hv.1 rfl om) <| vl (ldV hK Ty.o3 rfl (hv.at om)) <| ?_
   refine bsN [.tmp 24] hK underlying35 Ty.i3 rfl rfl rfl rfl rfl rfl rfl rfl ?_
   intro b25 w hK
   refine apI1 (k := xs[i]) hK underlying35 Ty.i3 rfl rfl ho rfl om fun v' A' w ho hK => ?_
   refine vl asg <| nl <| bkn <| thn <| rg <| vl (mI rfl) <| vl (ad rfl rfl) <| vl (aI rfl) <| nl <| thn <| ?_
   exact ⟨(i + 1, v', A'), ⟨rfl, rfl, rfl, rfl, trivial⟩, ⟨hi', by simp only; rw [hts]; exact ho, hK⟩, by simp only; omega⟩
  ·rw [if_neg (by simpa using h1), List.append_nil] at hts
   refine sk <| bkn <| thn <| rg <| ?_
   refine vl (mI rfl) <| vl (ad rfl rfl) <| vl (aI rfl) <| nl <| thn <| ?_
   exact ⟨(i + 1, u, A), ⟨rfl, rfl, rfl, rfl, trivial⟩, ⟨hi', by simp only; rw [hts]; exact ho, hK⟩, by simp only; omega⟩
 ·have hi' : i = xs.length := by simp only at hc; omega
  subst hi'
  refine ex <| the <| the <| bkh <| thn <| sq <| rg <| ?_
  refine vl mv <| vl asg <| nl <| thn <| rt <| p1r (a := _) rfl <| ?_
  rw [List.take_length] at ho
  exact ⟨A, ho, hK⟩
def scΨ (bk : Nat) (W : Wv) (wd : Wd) (i : Nat) (s : View × List Value) (u : Value) : Prop :=
 match i with
 | 1 => u = W.l
 | 3 => u = W.i
 | 4 => IntS s.1 u (keys wd.items)
 | 6 => u = .agg #[.int .i64 W.next, W.t]
 | 7 => ∃ t, u = .agg #[.int .i64 (stp wd.leases (keys wd.items) (W.next, wd.scan.2)).1, t] ∧ IntS s.1 t (stp wd.leases (keys wd.items) (W.next, wd.scan.2)).2
 | 8 => u = .pointer (some ⟨bk, 4, none⟩)
 | 9 => ∃ t, s.2 = wc { W with next := (stp wd.leases (keys wd.items) (W.next, wd.scan.2)).1, t := t } ∧ IntS s.1 t (stp wd.leases (keys wd.items) (W.next, wd.scan.2)).2
 | _ => True
theorem scΨ.mono {bk : Nat} {W : Wv} {wd : Wd} {G G' : View} {cs : List Value} (hG : VLe G G') : ∀ (i : Nat) (u : Value), scΨ bk W wd i (G, cs) u → scΨ bk W wd i (G', cs) u := by
 intro i u h
 unfold scΨ at h ⊢
 split at h
 all_goals first
  | exact h
  | exact IntS.mono h hG
  | (obtain ⟨t, h1, h2⟩ := h; exact ⟨t, h1, IntS.mono h2 hG⟩)
theorem scΨ.cs {bk : Nat} {W : Wv} {wd : Wd} {G : View} {cs cs' : List Value} : ∀ (i : Nat) (u : Value), i ≠ 9 → scΨ bk W wd i (G, cs) u → scΨ bk W wd i (G, cs') u := by
 intro i u hi h
 unfold scΨ at h ⊢
 split at h
 all_goals first
  | exact h
  | exact absurd rfl hi
theorem l51Scan_c (hK : K e w G L) (hW : WdS G lc W wd rs) (hok : LsOk wd.leases) (hks : Asc (keys wd.items)) (hsn : SnOk wd.scan) (hzl : wd.items.length ≤ 1000000) :
  Ret prog 64 #[.agg (wc W).toArray] w (fun r w' => ∃ G' W', VLe G G' ∧ r = .agg (wc W').toArray ∧ WdS G' lc W' (scW wd) rs ∧ K e w' G' L) := by
 have hlt : 0 < wd.leases.length := by have := hok.1; omega
 have e3 := hW.next
 refine enterG1 (args := [.agg (wc W).toArray]) func64 rfl rfl rfl rfl ?_
 refine sq <| rg <| ?_
 refine bx hK rfl rfl ?_
 intro b1 w hK
 refine al hK Ty.i39 rfl ?_
 intro b2 w hK
 refine nl <| thn <| sq <| sq <| ?_
 refine ct (σ := Bool) (fun s => [(1, .pointer (some ⟨b1, 0, none⟩)), (2, .pointer (some ⟨b2, 0, none⟩)), (14, .bool s)]) (fun s w => (s = true ↔ W.next < 64 ∧ 0 ≤ own wd W.next) ∧ K e w G ((b2, row [.int .i64 0, .slice none 0 0, .slice none 0 0, .slice none 0 0, .int .i64 0, .slice none 0 0, .slice none 0 0] 39) :: (b1, row (wc W) 39) :: L)) ?_ ?_
 ·refine rg <| ?_
  refine vl (fa underlying39 rfl Ty.z37 rfl) <| vl (fa underlying37 rfl Ty.z3 rfl) <| vl (ldO hK Ty.o3 1 rfl rfl rfl) <| vl (lt rfl rfl) <| vl (mB rfl) <| ?_
  refine splP (t := 7) rfl (fun h1 => ?_) fun h1 => ?_
  ·refine gy rfl <| vl (lsO hK Ty.a39 Ty.s39 1 rfl rfl rfl) <| gy rfl <| vl (fa underlying39 rfl Ty.z37 rfl) <| gy rfl <| vl (fa underlying37 rfl Ty.z3 rfl) <| gy rfl <| vl (ldO hK Ty.o3 1 rfl rfl rfl) <| gy rfl <| ?_
   refine cl call71 rfl (l51Owner_c hK hW hlt) ?_
   rintro _ w ⟨rfl, hK⟩
   refine gy rfl <| vl (ge rfl rfl) <| vl (pk rfl) <| nl <| ctn <| ?_
   exact ⟨_, ⟨rfl, rfl, rfl, trivial⟩, by simp [h1], hK⟩
  ·refine gn rfl <| gn rfl <| gn rfl <| gn rfl <| gn rfl <| gn rfl <| vl (pk rfl) <| nl <| ctn <| ?_
   exact ⟨_, ⟨rfl, rfl, rfl, trivial⟩, by simp [h1], hK⟩
 ·rintro s g w ⟨hs, hK⟩
  refine thn <| ?_
  refine cdB rfl (fun h2 => ?_) fun h2 => ?_
  ·have h2' := hs.1 h2
   have hsn' : SnOk (W.next, wd.scan.2) := by rw [e3]; exact hsn
   refine ct (σ := View × Value) (fun s => [(1, .pointer (some ⟨b1, 0, none⟩)), (2, .pointer (some ⟨b2, 0, none⟩))]) (fun s w => VLe G s.1 ∧ IntS s.1 s.2 (stp wd.leases (keys wd.items) (W.next, wd.scan.2)).2 ∧ K e w s.1 ((b2, row [.int .i64 0, .slice none 0 0, .slice none 0 0, .slice none 0 0, .int .i64 0, .slice none 0 0, .slice none 0 0] 39) :: (b1, row (wc { W with next := (stp wd.leases (keys wd.items) (W.next, wd.scan.2)).1, t := s.2 }) 39) :: L)) ?_ ?_
   ·skip
    refine rgs (fun w => K e w G L) (fun w => K _ w _ _) [U,U,U,U,U,U,U,U,U,U] 10 Ty.mixed rfl rfl (hK.drawn _) ?_
    intro w hK
    have hS : (fun w => K e w G L) w := K.sl hK
    refine xt (i := 0) rfl kr rfl rfl (fun w hK => (fa underlying39 rfl Ty.z33 rfl)) hS <| xt (i := 2) rfl kr rfl rfl (fun w hK => (fa underlying39 rfl Ty.z34 rfl)) hS <| xt (i := 5) rfl kr rfl rfl (fun w hK => (fa underlying39 rfl Ty.z37 rfl)) hS <| ?_
    refine forgetF (p := fun f0 => WX _ _ _ _ _ _ _ f0 w) [(1, .pointer (some ⟨b1, 0, none⟩)), (2, .pointer (some ⟨b2, 0, none⟩)), (15, .pointer (some ⟨b1, 2, none⟩)), (17, .pointer (some ⟨b1, 3, none⟩)), (20, .pointer (some ⟨b1, 4, none⟩))] ⟨rfl, rfl, rfl, rfl, rfl, trivial⟩ ?_
    rintro f0 ⟨k1, k2, k15, k17, k20, _⟩
    refine anyO (σ := View × List Value) (J := fun l s w => VLe G s.1 ∧ (l[9]? ≠ some true → s.2 = wc W) ∧ s.2.length = 7 ∧ K e w s.1 ((b2, row [.int .i64 0, .slice none 0 0, .slice none 0 0, .slice none 0 0, .int .i64 0, .slice none 0 0, .slice none 0 0] 39) :: (b1, row s.2 39) :: L)) (Ψ := scΨ b1 W wd) (D := [16, 18, 19, 21, 22, 23, 9009]) (d := fun i => [9100, 16, 9102, 18, 19, 9105, 21, 22, 23, 9009].getD i 0) kr (fun i _ hi => by have h := falses (r := [1, 3, 4, 6, 7, 8, 9]) (by decide) hi; revert i; decide) (fun i j hi hj _ he => getD_inj (by decide) hi hj he) (fun _ _ _ ⟨hG, _, _, hK⟩ => K.vle hK.drop1.drop1 hG) ?_ ?_ _ _ _ _ (G, wc W) rfl (by decide) (fun _ h => h) ?_ (fun _ _ => rfl) ?_ ⟨VLe.refl _, (fun _ => rfl), rfl, hK⟩
    ·intro i hi
     have h := falses (r := [1, 3, 4, 6, 7, 8, 9]) (by decide) hi
     simp only [List.mem_cons, List.not_mem_nil, or_false] at h
     rcases h with rfl | rfl | rfl | rfl | rfl | rfl | rfl
     ·intro o ho l s f w hln hun hcl hb hp hJ hdep R hR
      obtain rfl := Option.some.inj ho
      obtain ⟨hG, h9, h7, hK⟩ := hJ
      obtain ⟨G1, cs⟩ := s
      simp only at hG h9 h7 hK
      have hn9 : l[9]? ≠ some true := fun h => by
       have := hcl 9 _ rfl h ⟨1, .phase⟩ (by simp) rfl
       rw [hun] at this; cases this
      obtain rfl := h9 hn9
      refine vl (ldO hK Ty.o33 1 rfl ((hb 15 (by decide)).trans k15) rfl) (nl (hR _ _ (G1, wc W) (fun x hx => upd_ne' hx) rfl (fun j u _ h => h) ⟨hG, (fun _ => rfl), h7, hK⟩))
     ·intro o ho l s f w hln hun hcl hb hp hJ hdep R hR
      obtain rfl := Option.some.inj ho
      obtain ⟨hG, h9, h7, hK⟩ := hJ
      obtain ⟨G1, cs⟩ := s
      simp only at hG h9 h7 hK
      have hn9 : l[9]? ≠ some true := fun h => by
       have := hcl 9 _ rfl h ⟨3, .phase⟩ (by simp) rfl
       rw [hun] at this; cases this
      obtain rfl := h9 hn9
      refine vl (ldO hK Ty.o34 1 rfl ((hb 17 (by decide)).trans k17) rfl) (nl (hR _ _ (G1, wc W) (fun x hx => upd_ne' hx) rfl (fun j u _ h => h) ⟨hG, (fun _ => rfl), h7, hK⟩))
     ·intro o ho l s f w hln hun hcl hb hp hJ hdep R hR
      obtain rfl := Option.some.inj ho
      obtain ⟨hG, h9, h7, hK⟩ := hJ
      obtain ⟨G1, cs⟩ := s
      simp only at hG h9 h7 hK
      have D8 := dep_of hdep [3] rfl
      have h3 : f 18 = W.i := hp 3 (D8 3 (by decide))
      refine cl call63 (by show [f 18] = _; rw [h3]) (l51Keys_c hK (hW.items.mono hG) (by omega)) ?_
      rintro r w ⟨A, ho, hK⟩
      obtain ⟨G2, hG2, hr, hK⟩ := K.pubO hK ho
      exact (nl (hR _ _ (G2, cs) (fun x hx => upd_ne' hx) hr (fun j u _ h => scΨ.mono hG2 j u h) ⟨hG.trans hG2, (fun h => h9 (set_ne h)), h7, hK⟩))
     ·intro o ho l s f w hln hun hcl hb hp hJ hdep R hR
      obtain rfl := Option.some.inj ho
      obtain ⟨hG, h9, h7, hK⟩ := hJ
      obtain ⟨G1, cs⟩ := s
      simp only at hG h9 h7 hK
      have hn9 : l[9]? ≠ some true := fun h => by
       have := hcl 9 _ rfl h ⟨6, .phase⟩ (by simp) rfl
       rw [hun] at this; cases this
      obtain rfl := h9 hn9
      refine vl (lsP (u := [.int .i64 W.next, W.t]) hK Ty.a37 Ty.s37 1 rfl ((hb 20 (by decide)).trans k20) rfl rfl) (nl (hR _ _ (G1, wc W) (fun x hx => upd_ne' hx) rfl (fun j u _ h => h) ⟨hG, (fun _ => rfl), h7, hK⟩))
     ·intro o ho l s f w hln hun hcl hb hp hJ hdep R hR
      obtain rfl := Option.some.inj ho
      obtain ⟨hG, h9, h7, hK⟩ := hJ
      obtain ⟨G1, cs⟩ := s
      simp only at hG h9 h7 hK
      have D8 := dep_of hdep [1, 4, 6, 4] rfl
      have q1 : f 16 = W.l := hp 1 (D8 1 (by decide))
      have q4 : IntS G1 (f 19) (keys wd.items) := hp 4 (D8 4 (by decide))
      have q6 : f 21 = .agg #[.int .i64 W.next, W.t] := hp 6 (D8 6 (by decide))
      refine cl call96 (by show [f 16, f 19, f 21] = _; rw [q1, q6]) (l41Step_c hK (LeaS.mono hW.leases hG) q4 (hW.told.mono hG) hok hks hsn' h2'.1) ?_
      rintro r w ⟨t, A, rfl, ho, hK⟩
      obtain ⟨G2, hG2, hr, hK⟩ := K.pubO hK ho
      exact (nl (hR _ _ (G2, cs) (fun x hx => upd_ne' hx) ⟨t, rfl, hr⟩ (fun j u _ h => scΨ.mono hG2 j u h) ⟨hG.trans hG2, (fun h => h9 (set_ne h)), h7, hK⟩))
     ·intro o ho l s f w hln hun hcl hb hp hJ hdep R hR
      obtain rfl := Option.some.inj ho
      obtain ⟨hG, h9, h7, hK⟩ := hJ
      obtain ⟨G1, cs⟩ := s
      simp only at hG h9 h7 hK
      exact vl (fa underlying39 rfl Ty.z37 ((hb 1 (by decide)).trans k1)) (nl (hR _ _ (G1, cs) (fun x hx => upd_ne' hx) rfl (fun j u _ h => h) ⟨hG, (fun h => h9 (set_ne h)), h7, hK⟩))
     ·intro o ho l s f w hln hun hcl hb hp hJ hdep R hR
      obtain rfl := Option.some.inj ho
      obtain ⟨hG, h9, h7, hK⟩ := hJ
      obtain ⟨G1, cs⟩ := s
      simp only at hG h9 h7 hK
      obtain ⟨t, q1, q2⟩ := hp 7 (hdep ⟨7, .data⟩ (List.mem_cons_of_mem _ (List.mem_cons_self ..)) rfl)
      obtain rfl := h9 (by rw [hun]; simp)
      refine soS hK Ty.i37 1 rfl (hp 8 (hdep ⟨8, .data⟩ (List.mem_cons_self ..) rfl)) q1 rfl (allc rfl (allc q2.1.one rfl)) rfl (fun w hK => nl (hR _ _ (G1, wc { W with next := (stp wd.leases (keys wd.items) (W.next, wd.scan.2)).1, t := t }) (fun _ _ => rfl) ⟨t, rfl, q2⟩ (fun j u hj h => scΨ.cs j u hj h) ⟨hG, (fun h => absurd (by rw [List.getElem?_set_self (by rw [hln]; decide)]) h), rfl, hK⟩))
    ·intro l s f w hall hb hp hJ
     obtain ⟨t, h1, h2⟩ := hp 9 (by decide)
     obtain ⟨G1, cs⟩ := s
     simp only at h1 h2
     subst h1
     exact ⟨(G1, t), ⟨(hb 1 (by decide)).trans k1, (hb 2 (by decide)).trans k2, trivial⟩, hJ.1, h2, hJ.2.2.2⟩
    ·exact clo_of kr
    ·intro i hi
     have h := trues (r := [0, 2, 5]) (by decide) hi
     simp only [List.mem_cons, List.not_mem_nil, or_false] at h
     rcases h with rfl | rfl | rfl <;> trivial
   ·rintro ⟨G2, t⟩ g w ⟨hG2, ht, hK⟩
    have hW' : WdS G2 lc { W with next := (stp wd.leases (keys wd.items) (W.next, wd.scan.2)).1, t := t } (scW wd) rs := by
     have hsc : scW wd = { wd with scan := stp wd.leases (keys wd.items) wd.scan } := if_pos (by rw [← e3]; exact h2')
     have hst : (W.next, wd.scan.2) = wd.scan := by rw [e3]
     rw [hsc]
     rw [hst] at ht ⊢
     exact ⟨hW.now, hW.ring.mono hG2, hW.rg, LeaS.mono hW.leases hG2, hW.items.mono hG2, rfl, ht, hW.since.mono hG2⟩
    refine thn <| sq <| rg <| ?_
    refine vl (lsO hK Ty.a39 Ty.s39 1 rfl rfl rfl) <| ?_
    refine soS hK Ty.i39 0 rfl rfl rfl rfl (WdS.one hW') rfl ?_
    intro w hK
    refine nl <| thn <| rt <| pg1r (rvS hK Ty.a39 Ty.s39 0 rfl rfl rfl) <| ?_
    exact ⟨G2, _, hG2, rfl, hW', hK.drop1.drop1⟩
  ·have hsc : scW wd = wd := if_neg (by rw [← e3]; exact fun h => by rw [hs.2 h] at h2; cases h2)
   refine sk <| thn <| sq <| rg <| ?_
   refine vl (lsO hK Ty.a39 Ty.s39 1 rfl rfl rfl) <| ?_
   refine soS hK Ty.i39 0 rfl rfl rfl rfl (WdS.one hW) rfl ?_
   intro w hK
   refine nl <| thn <| rt <| pg1r (rvS hK Ty.a39 Ty.s39 0 rfl rfl rfl) <| ?_
   rw [hsc]
   exact ⟨G, _, VLe.refl _, rfl, hW, hK.drop1.drop1⟩
end
open Go Go.Ro Tryz
section
variable {e w : World} {G : View} {L A : Own} {v u : Value} {xs ys : List Int} {ls ms : List Ls} {rs qs : List Rn} {zs ts : List It} {W W' : Wv} {wd wd' : Wd} {a b c k kd id other : Int} {i j bk o : Nat}
theorem l51Ring_c (hK : K e w G L) (hW : WdS G lc W wd rs) : Ret prog 65 #[.agg (wc W).toArray, .agg (ec kd a b c).toArray] w (fun r w' => ∃ G' W' rs', VLe G G' ∧ r = .agg (wc W').toArray ∧ WdS G' lc W' (rgW wd kd a b) rs' ∧ K e w' G' L) := by
 have hr := hW.ring
 have e2 := hW.rg
 refine enterG1 (args := [.agg (wc W).toArray, .agg (ec kd a b c).toArray]) func65 rfl rfl rfl rfl ?_
 refine sq <| rg <| ?_
 refine bx hK rfl rfl ?_
 intro b2 w hK
 refine bx hK rfl rfl ?_
 intro b3 w hK
 refine al hK Ty.i39 rfl ?_
 intro b4 w hK
 refine nl <| thn <| sq <| rg <| vl (fa underlying39 rfl Ty.z32 rfl) <| vl (ldO hK Ty.o32 2 rfl rfl rfl) <| vl asg <| nl <| thn <| sq <| rg <| vl (aB rfl) <| nl <| thn <| sq <| sq <| rg <| vl (fa underlying78 rfl Ty.z3 rfl) <| vl (ldO hK Ty.o3 1 rfl rfl rfl) <| nl <| thn <| ?_
 refine ct (σ := View × Value × List Rn × Bool) (fun s => [(2, .pointer (some ⟨b2, 0, none⟩)), (4, .pointer (some ⟨b4, 0, none⟩)), (5, s.2.1), (6, .bool s.2.2.2)]) (fun s w => VLe G s.1 ∧ RngS s.1 s.2.1 s.2.2.1 ∧ s.2.2.2 = (rgO wd.ring kd a b).2 ∧ (s.2.2.2 = true → rgl s.2.2.1 = (rgO wd.ring kd a b).1) ∧ K e w s.1 ((b4, row [.int .i64 0, .slice none 0 0, .slice none 0 0, .slice none 0 0, .int .i64 0, .slice none 0 0, .slice none 0 0] 39) :: (b3, row (ec kd a b c) 78) :: (b2, row (wc W) 39) :: L)) ?_ ?_
 ·refine bk <| sq <| rg <| ?_
  refine vl (eq rfl rfl) <| vl (aB rfl) <| nl <| thn <| ?_
  refine cdP rfl (fun h1 => ?_) fun h1 => ?_
  ·have hO : rgO wd.ring kd a b = tk (rgl rs) (Pt a ∧ Pt b) (joinR (rgl rs) a b) := by rw [e2]; unfold rgO;  rw [if_pos h1]
   refine rg <| ?_
   refine vl (fa underlying39 rfl Ty.z32 rfl) <| vl (ldO hK Ty.o32 2 rfl rfl rfl) <| vl (fa underlying78 rfl Ty.z3 rfl) <| vl (ldO hK Ty.o3 1 rfl rfl rfl) <| vl (fa underlying78 rfl Ty.z3 rfl) <| vl (ldO hK Ty.o3 1 rfl rfl rfl) <| ?_
   refine cl call97 rfl (specRingJoin_c hK hr) ?_
   rintro _ w ⟨G1, hG1, ⟨v1, qs, rfl, hv1, hq1⟩, hK⟩
   refine vl mv <| vl (ext rfl rfl) <| vl (ext rfl rfl) <| vl asg <| vl (aB rfl) <| nl <| bkn <| ctn <| ?_
   exact ⟨(G1, v1, qs, _), ⟨rfl, rfl, rfl, rfl, trivial⟩, hG1, hv1, by rw [hO], fun _ => by rw [hO]; exact hq1, hK⟩
  ·refine sq <| rg <| ?_
   refine vl (eq rfl rfl) <| vl (aB rfl) <| nl <| thn <| ?_
   refine cdP rfl (fun h2 => ?_) fun h2 => ?_
   ·have hO : rgO wd.ring kd a b = tk (rgl rs) (Pt a) (failR (rgl rs) a) := by rw [e2]; unfold rgO; rw [if_neg h1]; rw [if_pos h2]
    refine rg <| ?_
    refine vl (fa underlying39 rfl Ty.z32 rfl) <| vl (ldO hK Ty.o32 2 rfl rfl rfl) <| vl (fa underlying78 rfl Ty.z3 rfl) <| vl (ldO hK Ty.o3 1 rfl rfl rfl) <| ?_
    refine cl call98 rfl (specRingFail_c hK hr) ?_
    rintro _ w ⟨G1, hG1, ⟨v1, qs, rfl, hv1, hq1⟩, hK⟩
    refine vl mv <| vl (ext rfl rfl) <| vl (ext rfl rfl) <| vl asg <| vl (aB rfl) <| nl <| bkn <| ctn <| ?_
    exact ⟨(G1, v1, qs, _), ⟨rfl, rfl, rfl, rfl, trivial⟩, hG1, hv1, by rw [hO], fun _ => by rw [hO]; exact hq1, hK⟩
   ·refine sq <| rg <| ?_
    refine vl (eq rfl rfl) <| vl (aB rfl) <| nl <| thn <| ?_
    refine cdP rfl (fun h3 => ?_) fun h3 => ?_
    ·have hO : rgO wd.ring kd a b = tk (rgl rs) (Pt a) (dropR (rgl rs) a) := by rw [e2]; unfold rgO; rw [if_neg h1]; rw [if_neg h2]; rw [if_pos h3]
     refine rg <| ?_
     refine vl (fa underlying39 rfl Ty.z32 rfl) <| vl (ldO hK Ty.o32 2 rfl rfl rfl) <| vl (fa underlying78 rfl Ty.z3 rfl) <| vl (ldO hK Ty.o3 1 rfl rfl rfl) <| ?_
     refine cl call99 rfl (specRingDrop_c hK hr) ?_
     rintro _ w ⟨G1, hG1, ⟨v1, qs, rfl, hv1, hq1⟩, hK⟩
     refine vl mv <| vl (ext rfl rfl) <| vl (ext rfl rfl) <| vl asg <| vl (aB rfl) <| nl <| bkn <| ctn <| ?_
     exact ⟨(G1, v1, qs, _), ⟨rfl, rfl, rfl, rfl, trivial⟩, hG1, hv1, by rw [hO], fun _ => by rw [hO]; exact hq1, hK⟩
    ·refine sq <| rg <| ?_
     refine vl (eq rfl rfl) <| vl (aB rfl) <| nl <| thn <| ?_
     refine cdP rfl (fun h4 => ?_) fun h4 => ?_
     ·have hO : rgO wd.ring kd a b = tk (rgl rs) (Pt a) (adoptR (rgl rs) a) := by rw [e2]; unfold rgO; rw [if_neg h1]; rw [if_neg h2]; rw [if_neg h3]; rw [if_pos h4]
      refine rg <| ?_
      refine vl (fa underlying39 rfl Ty.z32 rfl) <| vl (ldO hK Ty.o32 2 rfl rfl rfl) <| vl (fa underlying78 rfl Ty.z3 rfl) <| vl (ldO hK Ty.o3 1 rfl rfl rfl) <| ?_
      refine cl call100 rfl (specRingAdopt_c hK hr) ?_
      rintro _ w ⟨G1, hG1, ⟨v1, qs, rfl, hv1, hq1⟩, hK⟩
      refine vl mv <| vl (ext rfl rfl) <| vl (ext rfl rfl) <| vl asg <| vl (aB rfl) <| nl <| bkn <| ctn <| ?_
      exact ⟨(G1, v1, qs, _), ⟨rfl, rfl, rfl, rfl, trivial⟩, hG1, hv1, by rw [hO], fun _ => by rw [hO]; exact hq1, hK⟩
     ·refine sq <| rg <| ?_
      refine vl (eq rfl rfl) <| vl (aB rfl) <| nl <| thn <| ?_
      refine cdP rfl (fun h5 => ?_) fun h5 => ?_
      ·have hO : rgO wd.ring kd a b = tk (rgl rs) (Pt a ∧ Pt b) (closerR (rgl rs) a b) := by rw [e2]; unfold rgO; rw [if_neg h1]; rw [if_neg h2]; rw [if_neg h3]; rw [if_neg h4]; rw [if_pos h5]
       refine rg <| ?_
       refine vl (fa underlying39 rfl Ty.z32 rfl) <| vl (ldO hK Ty.o32 2 rfl rfl rfl) <| vl (fa underlying78 rfl Ty.z3 rfl) <| vl (ldO hK Ty.o3 1 rfl rfl rfl) <| vl (fa underlying78 rfl Ty.z3 rfl) <| vl (ldO hK Ty.o3 1 rfl rfl rfl) <| ?_
       refine cl call101 rfl (specRingCloser_c hK hr) ?_
       rintro _ w ⟨G1, hG1, ⟨v1, qs, rfl, hv1, hq1⟩, hK⟩
       refine vl mv <| vl (ext rfl rfl) <| vl (ext rfl rfl) <| vl asg <| vl (aB rfl) <| nl <| bkn <| ctn <| ?_
       exact ⟨(G1, v1, qs, _), ⟨rfl, rfl, rfl, rfl, trivial⟩, hG1, hv1, by rw [hO], fun _ => by rw [hO]; exact hq1, hK⟩
      ·refine sq <| rg <| ?_
       refine vl (eq rfl rfl) <| vl (aB rfl) <| nl <| thn <| ?_
       refine cdP rfl (fun h6 => ?_) fun h6 => ?_
       ·have hO : rgO wd.ring kd a b = tk (rgl rs) (Pt a ∧ Pt b) (notifyR (rgl rs) a b) := by rw [e2]; unfold rgO; rw [if_neg h1]; rw [if_neg h2]; rw [if_neg h3]; rw [if_neg h4]; rw [if_neg h5]; rw [if_pos h6]
        refine rg <| ?_
        refine vl (fa underlying39 rfl Ty.z32 rfl) <| vl (ldO hK Ty.o32 2 rfl rfl rfl) <| vl (fa underlying78 rfl Ty.z3 rfl) <| vl (ldO hK Ty.o3 1 rfl rfl rfl) <| vl (fa underlying78 rfl Ty.z3 rfl) <| vl (ldO hK Ty.o3 1 rfl rfl rfl) <| ?_
        refine cl call102 rfl (specRingNotify_c hK hr) ?_
        rintro _ w ⟨G1, hG1, ⟨v1, qs, rfl, hv1, hq1⟩, hK⟩
        refine vl mv <| vl (ext rfl rfl) <| vl (ext rfl rfl) <| vl asg <| vl (aB rfl) <| nl <| bkn <| ctn <| ?_
        exact ⟨(G1, v1, qs, _), ⟨rfl, rfl, rfl, rfl, trivial⟩, hG1, hv1, by rw [hO], fun _ => by rw [hO]; exact hq1, hK⟩
       ·refine sk <| bkn <| ctn <| ?_
        have hO : rgO wd.ring kd a b = (wd.ring, false) := by unfold rgO; rw [if_neg h1, if_neg h2, if_neg h3, if_neg h4, if_neg h5, if_neg h6]
        exact ⟨(G, _, rs, false), ⟨rfl, rfl, rfl, rfl, trivial⟩, VLe.refl _, hr, by rw [hO], fun h => (by cases h), hK⟩
 ·rintro ⟨G1, v1, qs, b9⟩ g w ⟨hG1, hv1, hb, hq, hK⟩
  simp only at hG1 hv1 hb hq hK
  refine thn <| sq <| sq <| rg <| ?_
  refine vl (mB rfl) <| nl <| thn <| ?_
  refine cdB rfl (fun h7 => ?_) fun h7 => ?_
  ·have hw : rgW wd kd a b = { wd with ring := (rgO wd.ring kd a b).1 } := if_pos (by rw [← hb]; exact h7)
   have hW1 : WdS G1 lc { W with r := v1 } (rgW wd kd a b) qs := by
    rw [hw]; exact ⟨hW.now, hv1, hq h7, LeaS.mono hW.leases hG1, hW.items.mono hG1, hW.next, hW.told.mono hG1, hW.since.mono hG1⟩
   refine rg <| ?_
   refine vl mv <| vl (fa underlying39 rfl Ty.z32 rfl) <| ?_
   refine so hK Ty.i32 rfl 2 rfl rfl rfl hv1.sl.1.one rfl ?_
   intro w hK
   refine nl <| thn <| sq <| rg <| vl (lsO hK Ty.a39 Ty.s39 2 rfl rfl rfl) <| ?_
   refine soS hK Ty.i39 0 rfl rfl rfl rfl (WdS.one hW1) rfl ?_
   intro w hK
   refine nl <| thn <| rt <| pg1r (rvS hK Ty.a39 Ty.s39 0 rfl rfl rfl) <| ?_
   exact ⟨G1, _, qs, hG1, rfl, hW1, hK.drop1.drop1.drop1⟩
  ·have hw : rgW wd kd a b = wd := if_neg (by rw [← hb]; exact fun h => Bool.false_ne_true (h7.symm.trans h))
   refine sk <| thn <| sq <| rg <| ?_
   refine vl (lsO hK Ty.a39 Ty.s39 2 rfl rfl rfl) <| ?_
   refine soS hK Ty.i39 0 rfl rfl rfl rfl (WdS.one hW) rfl ?_
   intro w hK
   refine nl <| thn <| rt <| pg1r (rvS hK Ty.a39 Ty.s39 0 rfl rfl rfl) <| ?_
   rw [hw]
   exact ⟨G1, _, rs, hG1, rfl, hW.mono hG1, hK.drop1.drop1.drop1⟩
theorem l51Lease_c (hK : K e w G L) (hW : WdS G lc W wd rs) (hok : LsOk wd.leases) (hn : Tm wd.now) : Ret prog 61 #[.agg (wc W).toArray, .agg (ec kd a b c).toArray] w (fun r w' => ∃ G' W', VLe G G' ∧ r = .agg (wc W').toArray ∧ WdS G' lc W' (leW wd kd a b c) rs ∧ K e w' G' L) := by
 have hr := hW.ring
 have hl := hW.leases
 have e1 := hW.now
 have e2 := hW.rg
 have hlt : 0 < wd.leases.length := by have := hok.1; omega
 have hn' : Tm W.now := by rw [e1]; exact hn
 refine enterG1 (args := [.agg (wc W).toArray, .agg (ec kd a b c).toArray]) func61 rfl rfl rfl rfl ?_
 refine sq <| rg <| ?_
 refine bx hK rfl rfl ?_
 intro b2 w hK
 refine bx hK rfl rfl ?_
 intro b3 w hK
 refine al hK Ty.i39 rfl ?_
 intro b4 w hK
 refine nl <| thn <| sq <| rg <| vl (fa underlying39 rfl Ty.z3 rfl) <| vl (ldO hK Ty.o3 2 rfl rfl rfl) <| vl (ad rfl rfl) <| vl (mn rfl rfl) <| vl (aI rfl) <| nl <| thn <| sq <| rg <| vl (fa underlying39 rfl Ty.z33 rfl) <| vl (ldO hK Ty.o33 2 rfl rfl rfl) <| vl asg <| nl <| thn <| ?_
 refine sq <| rg <| vl (aB rfl) <| nl <| thn <| sq <| ?_
 refine ct (σ := View × Value × List Ls × Bool) (fun s => [(2, .pointer (some ⟨b2, 0, none⟩)), (4, .pointer (some ⟨b4, 0, none⟩)), (6, s.2.1), (7, .bool s.2.2.2)]) (fun s w => VLe G s.1 ∧ (s.2.2.2 = true → LeaS s.1 s.2.1 s.2.2.1) ∧ (s.2.2.2 = true → { wd with leases := s.2.2.1 } = leW wd kd a b c) ∧ (s.2.2.2 = false → wd = leW wd kd a b c) ∧ K e w s.1 ((b4, row [.int .i64 0, .slice none 0 0, .slice none 0 0, .slice none 0 0, .int .i64 0, .slice none 0 0, .slice none 0 0] 39) :: (b3, row (ec kd a b c) 78) :: (b2, row (wc W) 39) :: L)) ?_ ?_
 ·refine bk <| sq <| rg <| ?_
  refine vl (fa underlying39 rfl Ty.z32 rfl) <| vl (ldO hK Ty.o32 2 rfl rfl rfl) <| vl (fa underlying78 rfl Ty.z3 rfl) <| vl (ldO hK Ty.o3 1 rfl rfl rfl) <| ?_
  refine cl call91 rfl (l3Find_c hK hr) ?_
  rintro _ w ⟨rfl, hK⟩
  refine vl (lt rfl rfl) <| vl (aB rfl) <| nl <| thn <| ?_
  refine cdP rfl (fun h0 => ?_) fun h0 => ?_
  ·have h0' : a ∉ ids wd.ring := by rw [← e2]; exact fun h => by have := fI_ge.2 h; omega
   have hw : leW wd kd a b c = wd := leW_no (by unfold leO; rw [if_pos h0'])
   refine sq <| rg <| ?_
   refine vl (lsO hK Ty.a39 Ty.s39 2 rfl rfl rfl) <| ?_
   refine soS hK Ty.i39 0 rfl rfl rfl rfl (WdS.one hW) rfl ?_
   intro w hK
   refine nl <| thn <| rt <| bkr <| ctr <| thr <| pg1r (rvS hK Ty.a39 Ty.s39 0 rfl rfl rfl) <| ?_
   rw [hw]
   exact ⟨G, _, VLe.refl _, rfl, hW, hK.drop1.drop1.drop1⟩
  ·have h0' : a ∈ ids wd.ring := by rw [← e2]; exact fI_ge.1 (by omega)
   have hnn : ¬ (a ∉ ids wd.ring) := fun h => h h0'
   refine sq <| ?_
   refine ct (σ := Bool) (fun s => [(2, .pointer (some ⟨b2, 0, none⟩)), (3, .pointer (some ⟨b3, 0, none⟩)), (4, .pointer (some ⟨b4, 0, none⟩)), (5, .int .i64 (utl W.now)), (6, W.l), (7, .bool false), (24, .bool s)]) (fun s w => (s = true ↔ kd = 7 ∧ c ∈ ids wd.ring ∧ Pt b ∧ own wd b = a) ∧ K e w G ((b4, row [.int .i64 0, .slice none 0 0, .slice none 0 0, .slice none 0 0, .int .i64 0, .slice none 0 0, .slice none 0 0] 39) :: (b3, row (ec kd a b c) 78) :: (b2, row (wc W) 39) :: L)) ?_ ?_
   ·skip
    refine rgq (fun w => K _ w _ _) Ty.mixed kr (hK.drawn _) ?_
    refine qv (fun w hK => (fa underlying78 rfl Ty.z3 rfl)) <| qldO Ty.o3 1 rfl rfl rfl <| qv (fun w hK => (eq rfl rfl)) <| qv (fun w hK => (mB rfl)) <| ?_
    refine qsplP (t := 28) rfl (fun q1 => ?_) fun q1 => ?_
    ·refine qgy rfl <| qv (fun w hK => (fa underlying39 rfl Ty.z32 rfl)) <| qgy rfl <| qldO Ty.o32 2 rfl rfl rfl <| qgy rfl <| qv (fun w hK => (fa underlying78 rfl Ty.z3 rfl)) <| qgy rfl <| qldO Ty.o3 1 rfl rfl rfl <| qgy rfl <| ?_
     refine qcl call91 rfl (fun w hK => l3Find_c hK hr) ?_
     refine qgy rfl <| qv (fun w hK => (ge rfl rfl)) <| qv (fun w hK => (pk rfl)) <| qv (fun w hK => (mB rfl)) <| ?_
     refine qsplP (t := 36) rfl (fun q2 => ?_) fun q2 => ?_
     ·have q2' : c ∈ ids wd.ring := by rw [← e2]; exact fI_ge.1 q2
      refine qgy rfl <| qv (fun w hK => (fa underlying78 rfl Ty.z3 rfl)) <| qgy rfl <| qldO Ty.o3 1 rfl rfl rfl <| qgy rfl <| ?_
      refine qcl call70 rfl (fun w hK => l1Point_c (C := fun w => K _ w _ _) hK) ?_
      refine qv (fun w hK => (pk rfl)) <| qv (fun w hK => (mB rfl)) <| ?_
      refine qsplP (t := 41) rfl (fun q3 => ?_) fun q3 => ?_
      ·refine qgy rfl <| qlsO Ty.a39 Ty.s39 2 rfl rfl rfl <| qgy rfl <| qv (fun w hK => (fa underlying78 rfl Ty.z3 rfl)) <| qgy rfl <| qldO Ty.o3 1 rfl rfl rfl <| qgy rfl <| ?_
       refine qcl call71 rfl (fun w hK => l51Owner_c hK hW hlt) ?_
       refine qgy rfl <| qv (fun w hK => (fa underlying78 rfl Ty.z3 rfl)) <| qgy rfl <| qldO Ty.o3 1 rfl rfl rfl <| qgy rfl <| qv (fun w hK => (eq rfl rfl)) <| qv (fun w hK => (pk rfl)) <| qv (fun w hK => (aB rfl)) <| qn <| ?_
       intro w hK
       refine ctn <| ?_
       exact ⟨_, ⟨rfl, rfl, rfl, rfl, rfl, rfl, rfl, trivial⟩, by rw [decide_eq_true_eq]; exact ⟨fun h => ⟨q1, q2', q3, h⟩, fun h => h.2.2.2⟩, hK⟩
      ·refine qgn rfl <| qgn rfl <| qgn rfl <| qgn rfl <| qgn rfl <| qgn rfl <| qgn rfl <| qv (fun w hK => (pk rfl)) <| qv (fun w hK => (aB rfl)) <| qn <| ?_
       intro w hK
       refine ctn <| ?_
       exact ⟨_, ⟨rfl, rfl, rfl, rfl, rfl, rfl, rfl, trivial⟩, by simp only [Bool.false_eq_true, false_iff]; exact fun h => q3 h.2.2.1, hK⟩
     ·have q2' : c ∉ ids wd.ring := by rw [← e2]; exact fun h => q2 (fI_ge.2 h)
      refine qgn rfl <| qgn rfl <| qgn rfl <| qv (fun w hK => (pk rfl)) <| qv (fun w hK => (mB rfl)) <| qgn rfl <| qgn rfl <| qgn rfl <| qgn rfl <| qgn rfl <| qgn rfl <| qgn rfl <| qv (fun w hK => (pk rfl)) <| qv (fun w hK => (aB rfl)) <| qn <| ?_
      intro w hK
      refine ctn <| ?_
      exact ⟨_, ⟨rfl, rfl, rfl, rfl, rfl, rfl, rfl, trivial⟩, by simp [q2'], hK⟩
    ·refine qgn rfl <| qgn rfl <| qgn rfl <| qgn rfl <| qgn rfl <| qgn rfl <| qv (fun w hK => (pk rfl)) <| qv (fun w hK => (mB rfl)) <| qgn rfl <| qgn rfl <| qgn rfl <| qv (fun w hK => (pk rfl)) <| qv (fun w hK => (mB rfl)) <| qgn rfl <| qgn rfl <| qgn rfl <| qgn rfl <| qgn rfl <| qgn rfl <| qgn rfl <| qv (fun w hK => (pk rfl)) <| qv (fun w hK => (aB rfl)) <| qn <| ?_
     intro w hK
     refine ctn <| ?_
     exact ⟨_, ⟨rfl, rfl, rfl, rfl, rfl, rfl, rfl, trivial⟩, by simp [q1], hK⟩
   ·rintro s g w ⟨hs, hK⟩
    refine thn <| ?_
    refine cdB rfl (fun g1 => ?_) fun g1 => ?_
    ·have g1' := hs.1 g1
     have hO : leO wd kd a b c = tkL wd.leases (Pt a ∧ Pt b ∧ Pt c ∧ Tm (utl W.now)) (handL wd.leases a b c (utl W.now)) := by unfold leO; rw [if_neg hnn, if_pos g1'.1, if_pos g1'.2, e1]
     refine rg <| ?_
     refine vl (fa underlying39 rfl Ty.z33 rfl) <| vl (ldO hK Ty.o33 2 rfl rfl rfl) <| vl (fa underlying78 rfl Ty.z3 rfl) <| vl (ldO hK Ty.o3 1 rfl rfl rfl) <| vl (fa underlying78 rfl Ty.z3 rfl) <| vl (ldO hK Ty.o3 1 rfl rfl rfl) <| vl (fa underlying78 rfl Ty.z3 rfl) <| vl (ldO hK Ty.o3 1 rfl rfl rfl) <| vl (mI rfl) <| ?_
     refine cl call92 rfl (specLeaseHand_c hK hl) ?_
     rintro _ w ⟨G1, hG1, ⟨v1, rfl, hv1⟩, hK⟩
     refine vl mv <| vl (ext rfl rfl) <| vl (ext rfl rfl) <| vl asg <| vl (aB rfl) <| nl <| bkn <| ctn <| ?_
     exact ⟨(G1, v1, _, _), ⟨rfl, rfl, rfl, rfl, trivial⟩, hG1, fun _ => hv1, (leW_T hO).1, (leW_T hO).2, hK⟩
    ·have g1' : ¬ (kd = 7 ∧ c ∈ ids wd.ring ∧ Pt b ∧ own wd b = a) := fun h => by rw [hs.2 h] at g1; cases g1
     refine sq <| rg <| ?_
     refine vl (fa underlying78 rfl Ty.z3 rfl) <| vl (ldO hK Ty.o3 1 rfl rfl rfl) <| vl (eq rfl rfl) <| vl (aB rfl) <| nl <| thn <| ?_
     refine cdP rfl (fun g2 => ?_) fun g2 => ?_
     ·have hO : leO wd kd a b c = tkL wd.leases (Pt b ∧ Pt a ∧ Tm W.now ∧ Tm (utl W.now)) (takeL wd.leases b a W.now (utl W.now)) := by unfold leO; rw [if_neg hnn, if_neg (by omega), if_pos g2, e1]
      refine rg <| ?_
      refine vl (fa underlying39 rfl Ty.z33 rfl) <| vl (ldO hK Ty.o33 2 rfl rfl rfl) <| vl (fa underlying78 rfl Ty.z3 rfl) <| vl (ldO hK Ty.o3 1 rfl rfl rfl) <| vl (fa underlying78 rfl Ty.z3 rfl) <| vl (ldO hK Ty.o3 1 rfl rfl rfl) <| vl (fa underlying39 rfl Ty.z3 rfl) <| vl (ldO hK Ty.o3 2 rfl rfl rfl) <| vl (mI rfl) <| ?_
      refine cl call93 rfl (specLeaseTake_c hK hl) ?_
      rintro _ w ⟨G1, hG1, ⟨v1, rfl, hv1⟩, hK⟩
      refine vl mv <| vl (ext rfl rfl) <| vl (ext rfl rfl) <| vl asg <| vl (aB rfl) <| nl <| bkn <| ctn <| ?_
      exact ⟨(G1, v1, _, _), ⟨rfl, rfl, rfl, rfl, trivial⟩, hG1, fun _ => hv1, (leW_T hO).1, (leW_T hO).2, hK⟩
     ·refine sq <| rg <| ?_
      refine vl (fa underlying78 rfl Ty.z3 rfl) <| vl (ldO hK Ty.o3 1 rfl rfl rfl) <| vl (eq rfl rfl) <| vl (aB rfl) <| nl <| thn <| ?_
      refine cdP rfl (fun g3 => ?_) fun g3 => ?_
      ·refine sq <| rg <| ?_
       refine vl (fa underlying39 rfl Ty.z33 rfl) <| vl (ldO hK Ty.o33 2 rfl rfl rfl) <| vl (fa underlying78 rfl Ty.z3 rfl) <| vl (ldO hK Ty.o3 1 rfl rfl rfl) <| vl (fa underlying39 rfl Ty.z3 rfl) <| vl (ldO hK Ty.o3 2 rfl rfl rfl) <| vl (mI rfl) <| ?_
       refine cl call94 rfl (specLeaseRenew_c hK hl) ?_
       rintro _ w ⟨G1, u1, n1, hG1, rfl, hno, hyes, hK⟩
       refine vl mv <| vl (ext rfl rfl) <| vl (ext rfl rfl) <| vl asg <| vl (aI rfl) <| nl <| thn <| sq <| rg <| vl mv <| vl asg <| nl <| thn <| rg <| vl (mI rfl) <| vl (gt rfl rfl) <| vl (aB rfl) <| nl <| bkn <| ctn <| ?_
       by_cases hpa : Pt a
       ·have hO : leO wd kd a b c = (renewL wd.leases a W.now (utl W.now), true) := by unfold leO; rw [if_neg hnn, if_neg (by omega), if_neg g2, if_pos g3, if_pos hpa, e1]
        have hy := hyes ⟨hok, hpa, hn', utl_tm hn'⟩
        refine ⟨(G1, u1, renewL wd.leases a W.now (utl W.now), _), ⟨rfl, rfl, rfl, rfl, trivial⟩, hG1, fun _ => hy.2, fun _ => (leW_yes hO).symm, fun h => ?_, hK⟩
        have h0 : renewN wd.leases a W.now (utl W.now) = 0 := by
         have := of_decide_eq_false h
         have := hy.1
         omega
        rw [leW_yes hO, renew_none h0]
       ·have hO : leO wd kd a b c = (wd.leases, false) := by unfold leO; rw [if_neg hnn, if_neg (by omega), if_neg g2, if_pos g3, if_neg hpa]
        have hn1 := hno fun h => hpa h.2.1
        exact ⟨(G1, u1, [], _), ⟨rfl, rfl, rfl, rfl, trivial⟩, hG1, fun h => absurd (of_decide_eq_true h) (by omega), fun h => absurd (of_decide_eq_true h) (by omega), fun _ => (leW_no hO).symm, hK⟩
      ·refine sk <| bkn <| ctn <| ?_
       have hO : leO wd kd a b c = (wd.leases, false) := by
        unfold leO; rw [if_neg hnn]
        by_cases h7 : kd = 7
        ·rw [if_pos h7, if_neg fun h => g1' ⟨h7, h⟩]
        ·rw [if_neg h7, if_neg g2, if_neg g3]
       exact ⟨(G, _, [], false), ⟨rfl, rfl, rfl, rfl, trivial⟩, VLe.refl _, fun h => (by cases h), fun h => (by cases h), fun _ => (leW_no hO).symm, hK⟩
 ·rintro ⟨G1, v1, l1, b9⟩ g w ⟨hG1, hv1, ht, hf, hK⟩
  simp only at hG1 hv1 ht hf hK
  refine thn <| sq <| sq <| rg <| ?_
  refine vl (mB rfl) <| nl <| thn <| ?_
  refine cdB rfl (fun h7 => ?_) fun h7 => ?_
  ·have hv1' := hv1 h7
   have hW1 : WdS G1 lc { W with l := v1 } (leW wd kd a b c) rs := by
    rw [← ht h7]; exact ⟨hW.now, hW.ring.mono hG1, hW.rg, hv1', hW.items.mono hG1, hW.next, hW.told.mono hG1, hW.since.mono hG1⟩
   refine rg <| ?_
   refine vl mv <| vl (fa underlying39 rfl Ty.z33 rfl) <| ?_
   refine so hK Ty.i33 rfl 2 rfl rfl rfl (SlW.one hv1'.1) rfl ?_
   intro w hK
   refine nl <| thn <| sq <| rg <| vl (lsO hK Ty.a39 Ty.s39 2 rfl rfl rfl) <| ?_
   refine soS hK Ty.i39 0 rfl rfl rfl rfl (WdS.one hW1) rfl ?_
   intro w hK
   refine nl <| thn <| rt <| pg1r (rvS hK Ty.a39 Ty.s39 0 rfl rfl rfl) <| ?_
   exact ⟨G1, _, hG1, rfl, hW1, hK.drop1.drop1.drop1⟩
  ·skip
   refine sk <| thn <| sq <| rg <| ?_
   refine vl (lsO hK Ty.a39 Ty.s39 2 rfl rfl rfl) <| ?_
   refine soS hK Ty.i39 0 rfl rfl rfl rfl (WdS.one hW) rfl ?_
   intro w hK
   refine nl <| thn <| rt <| pg1r (rvS hK Ty.a39 Ty.s39 0 rfl rfl rfl) <| ?_
   rw [← hf h7]
   exact ⟨G1, _, hG1, rfl, hW.mono hG1, hK.drop1.drop1.drop1⟩
end
end Go.Proofs.YtbiihblpgfgaoabGreatDoor
