/- The specification's copy of a world, its items the walk's own. Conditions: those that each row states. -/
import Derived.Test.YtmfolinemnlnbaaGreatDoorWc
import Derived.Test.YtmfolinemnlnbaaGreatDoorOx
namespace Go.Proofs.YtmfolinemnlnbaaGreatDoor
open Go Go.Ro Tryz
section
variable {e w : World} {G : View} {L A : Own} {v u : Value} {xs ys : List Int} {ls ms : List Ls} {rs qs : List Rn} {zs ts : List It} {W W' : Wv} {wd wd' : Wd} {a b c k kd id other : Int} {i j bk o : Nat}
theorem set_nf {l : List Bool} {i j : Nat} (h : (l.set i true)[j]? = some false) : l[j]? = some false := by
 by_cases e : i = j
 ·subst e
  rcases Nat.lt_or_ge i l.length with hl | hl
  ·rw [List.getElem?_set_self hl] at h; cases h
  ·rw [List.getElem?_eq_none (by rw [List.length_set]; exact hl)] at h; cases h
 ·rwa [List.getElem?_set_ne e] at h
theorem set_sf {l : List Bool} {i : Nat} {p : Prop} (h : (l.set i true)[i]? = some false) : p := by
 rcases Nat.lt_or_ge i l.length with hl | hl
 ·rw [List.getElem?_set_self hl] at h; cases h
 ·rw [List.getElem?_eq_none (by rw [List.length_set]; exact hl)] at h; cases h
def oo : Option Own → Own
 | none => []
 | some A => A
def coΨ (W : Wv) (wd : Wd) (i : Nat) (s : View × List Value × Option Own × Option Own) (u : Value) : Prop :=
 match i with
 | 4 => ∃ qs, RngS s.1 u qs ∧ rgl qs = wd.ring
 | 5 => ∃ b : Nat, u = .slice (some ⟨b, 0, none⟩) 0 0
 | 9 => ∃ b : Nat, u = .slice (some ⟨b, 0, none⟩) 0 0
 | 16 => ∃ b : Nat, u = .slice (some ⟨b, 0, none⟩) 0 0
 | 22 => ∃ b : Nat, u = .slice (some ⟨b, 0, none⟩) 0 0
 | 8 => LeaS s.1 u wd.leases
 | 12 => ∃ A, s.2.2.1 = some A ∧ OSx 2 54 u wd.items.length (wd.items.flatMap ic) A
 | 20 => IntS s.1 u wd.scan.2
 | 21 => ∃ t, u = .agg #[.int .i64 W.next, t] ∧ IntS s.1 t wd.scan.2
 | 25 => ∃ A, s.2.2.2 = some A ∧ OSx 1 3 u wd.since.length (wd.since.flatMap fun n => [.int .i64 n]) A
 | 26 => ∃ V qs A B, s.2.2.1 = some A ∧ s.2.2.2 = some B ∧ u = .agg (wc V).toArray ∧ WdO s.1 lc 54 3 V wd qs A B
 | 27 => ∃ V qs A B, s.2.2.1 = some A ∧ s.2.2.2 = some B ∧ s.2.1 = wc V ∧ WdO s.1 lc 54 3 V wd qs A B
 | _ => True
theorem coΨ.mono {W : Wv} {wd : Wd} {G G' : View} {x : List Value × Option Own × Option Own} (hG : VLe G G') : ∀ (i : Nat) (u : Value), coΨ W wd i (G, x) u → coΨ W wd i (G', x) u := by
 intro i u h
 unfold coΨ at h ⊢
 split at h
 all_goals first
  | exact h
  | exact SlR.mono (G := G) (G' := G') (fun _ _ h => h) h hG
  | (obtain ⟨V, qs, A, B, a, b, h1, h2⟩ := h; exact ⟨V, qs, A, B, a, b, h1, h2.mono hG⟩)
  | (obtain ⟨qs, h1, h2⟩ := h; exact ⟨qs, h1.mono hG, h2⟩)
  | (obtain ⟨t, h1, h2⟩ := h; exact ⟨t, h1, IntS.mono h2 hG⟩)
theorem coΨ.cs {W : Wv} {wd : Wd} {G : View} {cs cs' : List Value} {x : Option Own × Option Own} : ∀ (i : Nat) (u : Value), i ≠ 27 → coΨ W wd i (G, cs, x) u → coΨ W wd i (G, cs', x) u := by
 intro i u hi h
 unfold coΨ at h ⊢
 split at h
 all_goals first
  | exact h
  | exact absurd rfl hi
theorem coΨ.ai {W : Wv} {wd : Wd} {G : View} {cs : List Value} {x : Option Own} {A : Own} : ∀ (i : Nat) (u : Value), i ≠ 12 → coΨ W wd i (G, cs, none, x) u → coΨ W wd i (G, cs, some A, x) u := by
 intro i u hi h
 unfold coΨ at h ⊢
 split at h
 all_goals first
  | exact h
  | exact absurd rfl hi
  | (obtain ⟨_, _, _, _, h, _⟩ := h; exact absurd h (by simp))
theorem coΨ.as {W : Wv} {wd : Wd} {G : View} {cs : List Value} {x : Option Own} {A : Own} : ∀ (i : Nat) (u : Value), i ≠ 25 → coΨ W wd i (G, cs, x, none) u → coΨ W wd i (G, cs, x, some A) u := by
 intro i u hi h
 unfold coΨ at h ⊢
 split at h
 all_goals first
  | exact h
  | exact absurd rfl hi
  | (obtain ⟨_, _, _, _, _, h, _⟩ := h; exact absurd h (by simp))
theorem l51CopyO_c (hK : K e w G L) (hW : WdS G lc W wd rs) (hok : RgOk wd.ring) (hll : wd.leases.length ≤ 1000000) (hil : wd.items.length ≤ 1000000) (htl : wd.scan.2.length ≤ 1000000) (hsl : wd.since.length ≤ 1000000) :
  Ret prog 36 #[.agg (wc W).toArray] w (fun r w' => ∃ G' W' rs' AI AS, VLe G G' ∧ r = .agg (wc W').toArray ∧ WdO G' lc 54 3 W' wd rs' AI AS ∧ K e w' G' (AI ++ (AS ++ L))) := by
 have hok' : RgOk (rgl rs) := by rw [hW.rg]; exact hok
 refine enterG1 (args := [.agg (wc W).toArray]) func36 rfl rfl rfl rfl ?_
 refine sq <| rg <| ?_
 refine bx hK rfl rfl ?_
 intro b1 w hK
 refine al hK Ty.i30 rfl ?_
 intro b2 w hK
 refine nl <| thn <| sq <| ?_
 refine ct (σ := View × Wv × List Rn × Own × Own) (fun s => [(2, .pointer (some ⟨b2, 0, none⟩))]) (fun s w => VLe G s.1 ∧ WdO s.1 lc 54 3 s.2.1 wd s.2.2.1 s.2.2.2.1 s.2.2.2.2 ∧ K e w s.1 ((b2, row (wc s.2.1) 30) :: (b1, row (wc W) 30) :: (s.2.2.2.1 ++ (s.2.2.2.2 ++ L)))) ?_ ?_
 ·skip
  refine rgs (fun w => K e w G ((b1, row (wc W) 30) :: L)) (fun w => K _ w _ _) [U,U,U,U,U,U,U,U,U,U,U,U,U,U,U,U,U,U,U,U,U,U,U,U,U,U,U,U] 28 Ty.mixed rfl rfl (hK.drawn _) ?_
  intro w hK
  have hS : (fun w => K e w G ((b1, row (wc W) 30) :: L)) w := K.sl hK
  refine xt (i := 0) rfl kr rfl rfl (fun w hK => (fa underlying30 rfl Ty.z3 rfl)) hS <| xt (i := 1) rfl kr rfl rfl (fun w hK => (ldO hK Ty.o3 0 rfl rfl rfl)) hS <| xt (i := 2) rfl kr rfl rfl (fun w hK => (fa underlying30 rfl Ty.z23 rfl)) hS <| xt (i := 3) rfl kr rfl rfl (fun w hK => (ldO hK Ty.o23 0 rfl rfl rfl)) hS <| xt (i := 6) rfl kr rfl rfl (fun w hK => (fa underlying30 rfl Ty.z24 rfl)) hS <| xt (i := 7) rfl kr rfl rfl (fun w hK => (ldO hK Ty.o24 0 rfl rfl rfl)) hS <| xt (i := 10) rfl kr rfl rfl (fun w hK => (fa underlying30 rfl Ty.z25 rfl)) hS <| xt (i := 11) rfl kr rfl rfl (fun w hK => (ldO hK Ty.o25 0 rfl rfl rfl)) hS <| xt (i := 13) rfl kr rfl rfl (fun w hK => (fa underlying30 rfl Ty.z28 rfl)) hS <| xt (i := 14) rfl kr rfl rfl (fun w hK => (fa underlying28 rfl Ty.z3 rfl)) hS <| xt (i := 15) rfl kr rfl rfl (fun w hK => (ldO hK Ty.o3 0 rfl rfl rfl)) hS <| xt (i := 17) rfl kr rfl rfl (fun w hK => (fa underlying30 rfl Ty.z28 rfl)) hS <| xt (i := 18) rfl kr rfl rfl (fun w hK => (fa underlying28 rfl Ty.z26 rfl)) hS <| xt (i := 19) rfl kr rfl rfl (fun w hK => (ldO hK Ty.o26 0 rfl rfl rfl)) hS <| xt (i := 23) rfl kr rfl rfl (fun w hK => (fa underlying30 rfl Ty.z26 rfl)) hS <| xt (i := 24) rfl kr rfl rfl (fun w hK => (ldO hK Ty.o26 0 rfl rfl rfl)) hS <| ?_
  refine forgetF (p := fun f0 => WX _ _ _ _ _ _ _ f0 w) [(2, .pointer (some ⟨b2, 0, none⟩)), (4, .int .i64 W.now), (6, W.r), (10, W.l), (14, W.i), (18, .int .i64 W.next), (22, W.t), (27, W.s)] ⟨rfl, rfl, rfl, rfl, rfl, rfl, rfl, rfl, trivial⟩ ?_
  rintro f0 ⟨k2, k4, k6, k10, k14, k18, k22, k27, _⟩
  refine anyO (σ := View × List Value × Option Own × Option Own) (J := fun l s w => VLe G s.1 ∧ s.2.1.length = 7 ∧ (l[12]? = some false → s.2.2.1 = none) ∧ (l[25]? = some false → s.2.2.2 = none) ∧ K e w s.1 ((b2, row s.2.1 30) :: (b1, row (wc W) 30) :: (oo s.2.2.1 ++ (oo s.2.2.2 ++ L)))) (Ψ := coΨ W wd) (D := [7, 8, 11, 12, 15, 19, 23, 24, 25, 28, 29, 9027]) (d := fun i => [9100, 9101, 9102, 9103, 7, 8, 9106, 9107, 11, 12, 9110, 9111, 15, 9113, 9114, 9115, 19, 9117, 9118, 9119, 23, 24, 25, 9123, 9124, 28, 29, 9027].getD i 0) kr (fun i _ hi => by have h := falses (r := [4, 5, 8, 9, 12, 16, 20, 21, 22, 25, 26, 27]) (by decide) hi; revert i; decide) (fun i j hi hj _ he => getD_inj (by decide) hi hj he) (fun _ _ _ ⟨hG, _, _, _, hK⟩ => K.vle (K.dropM (B := [_]) (K.dropM (B := [_]) hK.drop1)) hG) ?_ ?_ _ _ _ _ (G, [.int .i64 0, .slice none 0 0, .slice none 0 0, .slice none 0 0, .int .i64 0, .slice none 0 0, .slice none 0 0], none, none) rfl (by decide) (fun _ h => h) ?_ (fun _ _ => rfl) ?_ ⟨VLe.refl _, rfl, fun _ => rfl, fun _ => rfl, hK⟩
  ·intro i hi
   have h := falses (r := [4, 5, 8, 9, 12, 16, 20, 21, 22, 25, 26, 27]) (by decide) hi
   simp only [List.mem_cons, List.not_mem_nil, or_false] at h
   rcases h with rfl | rfl | rfl | rfl | rfl | rfl | rfl | rfl | rfl | rfl | rfl | rfl
   ·intro o ho l s f w hln hun hcl hb hp hJ hdep R hR
    obtain rfl := Option.some.inj ho
    obtain ⟨hG, h7, ha, hs, hK⟩ := hJ
    obtain ⟨G1, cs, AI, AS⟩ := s
    simp only at hG h7 ha hs hK
    refine cl call87 (by show [f 6] = _; rw [hb 6 (by decide), k6]) (l3Copy_v hK (hW.ring.mono hG) hok') ?_
    rintro r w ⟨G2, qs, hG2, hq, hR2, hK⟩
    exact nl (hR _ _ (G2, cs, AI, AS) (fun x hx => upd_ne' hx) ⟨qs, hR2, hq.trans hW.rg⟩ (fun j u _ h => coΨ.mono hG2 j u h) ⟨hG.trans hG2, h7, fun h => ha (set_nf h), fun h => hs (set_nf h), hK⟩)
   ·intro o ho l s f w hln hun hcl hb hp hJ hdep R hR
    obtain rfl := Option.some.inj ho
    obtain ⟨hG, h7, ha, hs, hK⟩ := hJ
    obtain ⟨G1, cs, AI, AS⟩ := s
    simp only at hG h7 ha hs hK
    refine bs0P hK underlying24 Ty.i105 fun b w hK => ?_
    exact nl (hR _ _ (G1, cs, AI, AS) (fun x hx => upd_ne' hx) ⟨b, rfl⟩ (fun j u _ h => h) ⟨hG, h7, fun h => ha (set_nf h), fun h => hs (set_nf h), hK⟩)
   ·intro o ho l s f w hln hun hcl hb hp hJ hdep R hR
    obtain rfl := Option.some.inj ho
    obtain ⟨hG, h7, ha, hs, hK⟩ := hJ
    obtain ⟨G1, cs, AI, AS⟩ := s
    simp only at hG h7 ha hs hK
    have D8 := dep_of hdep [5, 7, 4] rfl
    obtain ⟨b, hbv⟩ := hp 5 (D8 5 (by decide))
    refine ap0 (c := lc) (fun _ => rfl) rfl (fun _ => rfl) hK underlying24 Ty.i105 rfl rfl hbv ((hb 10 (by decide)).trans k10) (LeaS.mono hW.leases hG) (by omega) fun v G2 w hG2 hv hK => ?_
    exact nl (hR _ _ (G2, cs, AI, AS) (fun x hx => upd_ne' hx) hv (fun j u _ h => coΨ.mono hG2 j u h) ⟨hG.trans hG2, h7, fun h => ha (set_nf h), fun h => hs (set_nf h), hK⟩)
   ·intro o ho l s f w hln hun hcl hb hp hJ hdep R hR
    obtain rfl := Option.some.inj ho
    obtain ⟨hG, h7, ha, hs, hK⟩ := hJ
    obtain ⟨G1, cs, AI, AS⟩ := s
    simp only at hG h7 ha hs hK
    refine bs0P hK underlying25 Ty.i54 fun b w hK => ?_
    exact nl (hR _ _ (G1, cs, AI, AS) (fun x hx => upd_ne' hx) ⟨b, rfl⟩ (fun j u _ h => h) ⟨hG, h7, fun h => ha (set_nf h), fun h => hs (set_nf h), hK⟩)
   ·intro o ho l s f w hln hun hcl hb hp hJ hdep R hR
    obtain rfl := Option.some.inj ho
    obtain ⟨hG, h7, ha, hs, hK⟩ := hJ
    obtain ⟨G1, cs, AI, AS⟩ := s
    simp only at hG h7 ha hs hK
    have D8 := dep_of hdep [9, 11, 8] rfl
    obtain ⟨b, hbv⟩ := hp 9 (D8 9 (by decide))
    obtain rfl : AI = none := ha hun
    refine ap0o (c := ic) (fun _ => rfl) rfl hK underlying25 Ty.i54 rfl rfl hbv ((hb 14 (by decide)).trans k14) (hW.items.mono hG) (by omega) fun v A12 w hv hK => ?_
    exact nl (hR _ _ (G1, cs, some A12, AS) (fun x hx => upd_ne' hx) ⟨A12, rfl, hv⟩ (fun j u hj h => coΨ.ai j u hj h) ⟨hG, h7, fun h => set_sf h, fun h => hs (set_nf h), K.mid (A := A12) (B := [_, _]) hK⟩)
   ·intro o ho l s f w hln hun hcl hb hp hJ hdep R hR
    obtain rfl := Option.some.inj ho
    obtain ⟨hG, h7, ha, hs, hK⟩ := hJ
    obtain ⟨G1, cs, AI, AS⟩ := s
    simp only at hG h7 ha hs hK
    refine bs0P hK underlying26 Ty.i3 fun b w hK => ?_
    exact nl (hR _ _ (G1, cs, AI, AS) (fun x hx => upd_ne' hx) ⟨b, rfl⟩ (fun j u _ h => h) ⟨hG, h7, fun h => ha (set_nf h), fun h => hs (set_nf h), hK⟩)
   ·intro o ho l s f w hln hun hcl hb hp hJ hdep R hR
    obtain rfl := Option.some.inj ho
    obtain ⟨hG, h7, ha, hs, hK⟩ := hJ
    obtain ⟨G1, cs, AI, AS⟩ := s
    simp only at hG h7 ha hs hK
    have D8 := dep_of hdep [16, 19, 12] rfl
    obtain ⟨b, hbv⟩ := hp 16 (D8 16 (by decide))
    refine ap0I hK underlying26 Ty.i3 rfl hbv ((hb 22 (by decide)).trans k22) (hW.told.mono hG) (by omega) fun v G2 w hG2 hv hK => ?_
    exact nl (hR _ _ (G2, cs, AI, AS) (fun x hx => upd_ne' hx) hv (fun j u _ h => coΨ.mono hG2 j u h) ⟨hG.trans hG2, h7, fun h => ha (set_nf h), fun h => hs (set_nf h), hK⟩)
   ·intro o ho l s f w hln hun hcl hb hp hJ hdep R hR
    obtain rfl := Option.some.inj ho
    obtain ⟨hG, h7, ha, hs, hK⟩ := hJ
    obtain ⟨G1, cs, AI, AS⟩ := s
    simp only at hG h7 ha hs hK
    have D8 := dep_of hdep [15, 20] rfl
    have h20 := hp 20 (D8 20 (by decide))
    refine vl (bd [(0, [.int .i64 W.next]), (1, [f 23])] Ty.p28 Ty.i28 rfl ⟨⟨rfl, cells_of ((hb 18 (by decide)).trans k18) rfl⟩, ⟨rfl, one_cells (SlW.one h20.1)⟩, trivial⟩ rfl) (nl (hR _ _ (G1, cs, AI, AS) (fun x hx => upd_ne' hx) ⟨f 23, rfl, h20⟩ (fun j u _ h => h) ⟨hG, h7, fun h => ha (set_nf h), fun h => hs (set_nf h), hK⟩))
   ·intro o ho l s f w hln hun hcl hb hp hJ hdep R hR
    obtain rfl := Option.some.inj ho
    obtain ⟨hG, h7, ha, hs, hK⟩ := hJ
    obtain ⟨G1, cs, AI, AS⟩ := s
    simp only at hG h7 ha hs hK
    refine bs0P hK underlying26 Ty.i3 fun b w hK => ?_
    exact nl (hR _ _ (G1, cs, AI, AS) (fun x hx => upd_ne' hx) ⟨b, rfl⟩ (fun j u _ h => h) ⟨hG, h7, fun h => ha (set_nf h), fun h => hs (set_nf h), hK⟩)
   ·intro o ho l s f w hln hun hcl hb hp hJ hdep R hR
    obtain rfl := Option.some.inj ho
    obtain ⟨hG, h7, ha, hs, hK⟩ := hJ
    obtain ⟨G1, cs, AI, AS⟩ := s
    simp only at hG h7 ha hs hK
    have D8 := dep_of hdep [22, 24, 20] rfl
    obtain ⟨b, hbv⟩ := hp 22 (D8 22 (by decide))
    obtain rfl : AS = none := hs hun
    refine ap0o (c := fun n => [.int .i64 n]) (fun _ => rfl) rfl hK underlying26 Ty.i3 rfl rfl hbv ((hb 27 (by decide)).trans k27) (hW.since.mono hG) (by omega) fun v A25 w hv hK => ?_
    exact nl (hR _ _ (G1, cs, AI, some A25) (fun x hx => upd_ne' hx) ⟨A25, rfl, hv⟩ (fun j u hj h => coΨ.as j u hj h) ⟨hG, h7, fun h => ha (set_nf h), fun h => set_sf h, K.mid (A := A25) (B := [_, _] ++ oo AI) hK⟩)
   ·intro o ho l s f w hln hun hcl hb hp hJ hdep R hR
    obtain rfl := Option.some.inj ho
    obtain ⟨hG, h7, ha, hs, hK⟩ := hJ
    obtain ⟨G1, cs, AI, AS⟩ := s
    simp only at hG h7 ha hs hK
    have D8 := dep_of hdep [1, 4, 8, 12, 21, 25] rfl
    obtain ⟨qs, hq1, hq2⟩ := hp 4 (D8 4 (by decide))
    have h8 := hp 8 (D8 8 (by decide))
    obtain ⟨A12, a12, h12⟩ := hp 12 (D8 12 (by decide))
    obtain ⟨t, ht1, ht2⟩ := hp 21 (D8 21 (by decide))
    obtain ⟨A25, a25, h25⟩ := hp 25 (D8 25 (by decide))
    refine vl (bd [(0, [.int .i64 W.now]), (1, [f 7]), (2, [f 11]), (3, [f 15]), (4, [.int .i64 W.next, t]), (5, [f 28])] Ty.p30 Ty.i30 rfl ⟨⟨rfl, cells_of ((hb 4 (by decide)).trans k4) rfl⟩, ⟨rfl, one_cells hq1.sl.1.one⟩, ⟨rfl, one_cells (SlW.one h8.1)⟩, ⟨rfl, one_cells h12.one⟩, ⟨rfl, cells_of ht1 rfl⟩, ⟨rfl, one_cells h25.one⟩, trivial⟩ rfl) (nl (hR _ _ (G1, cs, AI, AS) (fun x hx => upd_ne' hx) ⟨⟨W.now, f 7, f 11, f 15, W.next, t, f 28⟩, qs, A12, A25, a12, a25, rfl, ⟨hW.now, hq1, hq2, h8, h12, hW.next, ht2, h25⟩⟩ (fun j u _ h => h) ⟨hG, h7, fun h => ha (set_nf h), fun h => hs (set_nf h), hK⟩))
   ·intro o ho l s f w hln hun hcl hb hp hJ hdep R hR
    obtain rfl := Option.some.inj ho
    obtain ⟨hG, h7, ha, hs, hK⟩ := hJ
    obtain ⟨G1, cs, AI, AS⟩ := s
    simp only at hG h7 ha hs hK
    have D8 := hp 26 (hdep ⟨26, .data⟩ (List.mem_cons_self ..) rfl)
    obtain ⟨V, qs, A12, A25, a12, a25, hv1, hv2⟩ := D8
    have hcs : cs.take 0 ++ wc V ++ cs.drop (0 + (wc V).length) = wc V := by
     rw [List.take_zero, List.nil_append, List.drop_eq_nil_of_le (by rw [h7]; exact Nat.le_refl _), List.append_nil]
    refine soS hK Ty.i30 0 rfl ((hb 2 (by decide)).trans k2) hv1 rfl (WdO.one hv2) (by rw [h7]; rfl) (fun w hK => nl (hR _ _ (G1, wc V, AI, AS) (fun _ _ => rfl) ⟨V, qs, A12, A25, a12, a25, rfl, hv2⟩ (fun j u hj h => coΨ.cs j u hj h) ⟨hG, rfl, fun h => ha (set_nf h), fun h => hs (set_nf h), by rw [hcs] at hK; exact hK⟩))
  ·intro l s f w hall hb hp hJ
   obtain ⟨V, qs, A12, A25, a12, a25, h1, h2⟩ := hp 27 (by decide)
   obtain ⟨G1, cs, AI, AS⟩ := s
   simp only at h1 h2 a12 a25
   subst h1 a12 a25
   exact ⟨(G1, V, qs, A12, A25), ⟨(hb 2 (by decide)).trans k2, trivial⟩, hJ.1, h2, hJ.2.2.2.2⟩
  ·exact clo_of kr
  ·intro i hi
   have h := trues (r := [0, 1, 2, 3, 6, 7, 10, 11, 13, 14, 15, 17, 18, 19, 23, 24]) (by decide) hi
   simp only [List.mem_cons, List.not_mem_nil, or_false] at h
   rcases h with rfl | rfl | rfl | rfl | rfl | rfl | rfl | rfl | rfl | rfl | rfl | rfl | rfl | rfl | rfl | rfl <;> trivial
 ·rintro ⟨G', W', rs', AI, AS⟩ g w ⟨hG, hW', hK⟩
  refine thn <| rt <| pg1r (rvS hK Ty.a30 Ty.s30 0 rfl rfl rfl) <| ?_
  simp only at hG hW' hK
  exact ⟨G', W', rs', AI, AS, hG, rfl, hW', hK.drop1.drop1⟩
end
end Go.Proofs.YtmfolinemnlnbaaGreatDoor
