/- Contracts of the specification's copies of worlds. The specification's copy of a world, its items the walk's own. Contracts of the specification's events of a world: rings and scans. Contracts of the specification's events of a world: the ring. Contracts of the specification's events of a world: the items. Contracts of the specification's events of a world. The contract of the specification's events of a world from outside. Contracts of the functions on puzzles. Contracts of the reader of a code. Conditions: those that each row states. -/
import Derived.Test.YtmgggljicpmndaaGreatCm
import Derived.Test.YtmgggljicpmndaaGreatWlM
import Derived.Test.YtmgggljicpmndaaGreatOx
import Derived.Test.YtmgggljicpmndaaGreatIn
import Derived.Test.YtmgggljicpmndaaGreatSs
import Derived.Test.YtmgggljicpmndaaGreatXr
namespace Go.Proofs.YtmgggljicpmndaaGreat
open Go Go.Ro Tryz
section
variable {e w : World} {G : View} {L A : Own} {v u : Value} {xs ys : List Int} {ls ms : List Ls} {rs qs : List Rn} {zs ts : List It} {W W' : Wv} {wd wd' : Wd} {a b c k kd id other : Int} {i j bk o : Nat}
def cpΨ (W : Wv) (wd : Wd) (i : Nat) (s : View × List Value) (u : Value) : Prop :=
 match i with
 | 4 => ∃ qs, RngS s.1 u qs ∧ rgl qs = wd.ring
 | 5 => ∃ b : Nat, u = .slice (some ⟨b, 0, none⟩) 0 0
 | 9 => ∃ b : Nat, u = .slice (some ⟨b, 0, none⟩) 0 0
 | 16 => ∃ b : Nat, u = .slice (some ⟨b, 0, none⟩) 0 0
 | 22 => ∃ b : Nat, u = .slice (some ⟨b, 0, none⟩) 0 0
 | 8 => LeaS s.1 u wd.leases
 | 12 => ItS s.1 u wd.items
 | 20 => IntS s.1 u wd.scan.2
 | 21 => ∃ t, u = .agg #[.int .i64 W.next, t] ∧ IntS s.1 t wd.scan.2
 | 25 => IntS s.1 u wd.since
 | 26 => ∃ V qs, u = .agg (wc V).toArray ∧ WdS s.1 lc V wd qs
 | 27 => ∃ V qs, s.2 = wc V ∧ WdS s.1 lc V wd qs
 | _ => True
theorem cpΨ.mono {W : Wv} {wd : Wd} {G G' : View} {cs : List Value} (hG : VLe G G') : ∀ (i : Nat) (u : Value), cpΨ W wd i (G, cs) u → cpΨ W wd i (G', cs) u := by
 intro i u h
 unfold cpΨ at h ⊢
 split at h
 all_goals first
  | exact h
  | exact SlR.mono (G := G) (G' := G') (fun _ _ h => h) h hG
  | (obtain ⟨qs, h1, h2⟩ := h; exact ⟨qs, h1.mono hG, h2⟩)
  | (obtain ⟨t, h1, h2⟩ := h; exact ⟨t, h1, IntS.mono h2 hG⟩)
  | (obtain ⟨V, qs, h1, h2⟩ := h; exact ⟨V, qs, h1, h2.mono hG⟩)
theorem cpΨ.cs {W : Wv} {wd : Wd} {G : View} {cs cs' : List Value} : ∀ (i : Nat) (u : Value), i ≠ 27 → cpΨ W wd i (G, cs) u → cpΨ W wd i (G, cs') u := by
 intro i u hi h
 unfold cpΨ at h ⊢
 split at h
 all_goals first
  | exact h
  | exact absurd rfl hi
theorem l51Copy_c (hK : K e w G L) (hW : WdS G lc W wd rs) (hok : RgOk wd.ring) (hll : wd.leases.length ≤ 1000000) (hil : wd.items.length ≤ 1000000) (htl : wd.scan.2.length ≤ 1000000) (hsl : wd.since.length ≤ 1000000) :
  Ret prog 17 #[.agg (wc W).toArray] w (fun r w' => ∃ G' W' rs', VLe G G' ∧ r = .agg (wc W').toArray ∧ WdS G' lc W' wd rs' ∧ K e w' G' L) := by
 have hok' : RgOk (rgl rs) := by rw [hW.rg]; exact hok
 refine enterG1 (args := [.agg (wc W).toArray]) func17 rfl rfl rfl rfl ?_
 refine sq <| rg <| ?_
 refine bx hK rfl rfl ?_
 intro b1 w hK
 refine al hK Ty.i36 rfl ?_
 intro b2 w hK
 refine nl <| thn <| sq <| ?_
 refine ct (σ := View × Wv × List Rn) (fun s => [(2, .pointer (some ⟨b2, 0, none⟩))]) (fun s w => VLe G s.1 ∧ WdS s.1 lc s.2.1 wd s.2.2 ∧ K e w s.1 ((b2, row (wc s.2.1) 36) :: (b1, row (wc W) 36) :: L)) ?_ ?_
 ·skip
  refine rgs (fun w => K e w G ((b1, row (wc W) 36) :: L)) (fun w => K _ w _ _) [U,U,U,U,U,U,U,U,U,U,U,U,U,U,U,U,U,U,U,U,U,U,U,U,U,U,U,U] 28 Ty.mixed rfl rfl (hK.drawn _) ?_
  intro w hK
  have hS : (fun w => K e w G ((b1, row (wc W) 36) :: L)) w := K.sl hK
  refine xt (i := 0) rfl kr rfl rfl (fun w hK => (fa underlying36 rfl Ty.z3 rfl)) hS <| xt (i := 1) rfl kr rfl rfl (fun w hK => (ldO hK Ty.o3 0 rfl rfl rfl)) hS <| xt (i := 2) rfl kr rfl rfl (fun w hK => (fa underlying36 rfl Ty.z31 rfl)) hS <| xt (i := 3) rfl kr rfl rfl (fun w hK => (ldO hK Ty.o31 0 rfl rfl rfl)) hS <| xt (i := 6) rfl kr rfl rfl (fun w hK => (fa underlying36 rfl Ty.z32 rfl)) hS <| xt (i := 7) rfl kr rfl rfl (fun w hK => (ldO hK Ty.o32 0 rfl rfl rfl)) hS <| xt (i := 10) rfl kr rfl rfl (fun w hK => (fa underlying36 rfl Ty.z33 rfl)) hS <| xt (i := 11) rfl kr rfl rfl (fun w hK => (ldO hK Ty.o33 0 rfl rfl rfl)) hS <| xt (i := 13) rfl kr rfl rfl (fun w hK => (fa underlying36 rfl Ty.z34 rfl)) hS <| xt (i := 14) rfl kr rfl rfl (fun w hK => (fa underlying34 rfl Ty.z3 rfl)) hS <| xt (i := 15) rfl kr rfl rfl (fun w hK => (ldO hK Ty.o3 0 rfl rfl rfl)) hS <| xt (i := 17) rfl kr rfl rfl (fun w hK => (fa underlying36 rfl Ty.z34 rfl)) hS <| xt (i := 18) rfl kr rfl rfl (fun w hK => (fa underlying34 rfl Ty.z25 rfl)) hS <| xt (i := 19) rfl kr rfl rfl (fun w hK => (ldO hK Ty.o25 0 rfl rfl rfl)) hS <| xt (i := 23) rfl kr rfl rfl (fun w hK => (fa underlying36 rfl Ty.z25 rfl)) hS <| xt (i := 24) rfl kr rfl rfl (fun w hK => (ldO hK Ty.o25 0 rfl rfl rfl)) hS <| ?_
  refine forgetF (p := fun f0 => WX _ _ _ _ _ _ _ f0 w) [(2, .pointer (some ⟨b2, 0, none⟩)), (4, .int .i64 W.now), (6, W.r), (10, W.l), (14, W.i), (18, .int .i64 W.next), (22, W.t), (27, W.s)] ⟨rfl, rfl, rfl, rfl, rfl, rfl, rfl, rfl, trivial⟩ ?_
  rintro f0 ⟨k2, k4, k6, k10, k14, k18, k22, k27, _⟩
  refine anyO (σ := View × List Value) (J := fun _ s w => VLe G s.1 ∧ s.2.length = 7 ∧ K e w s.1 ((b2, row s.2 36) :: (b1, row (wc W) 36) :: L)) (Ψ := cpΨ W wd) (D := [7, 8, 11, 12, 15, 19, 23, 24, 25, 28, 29, 9027]) (d := fun i => [9100, 9101, 9102, 9103, 7, 8, 9106, 9107, 11, 12, 9110, 9111, 15, 9113, 9114, 9115, 19, 9117, 9118, 9119, 23, 24, 25, 9123, 9124, 28, 29, 9027].getD i 0) kr (fun i _ hi => by have h := falses (r := [4, 5, 8, 9, 12, 16, 20, 21, 22, 25, 26, 27]) (by decide) hi; revert i; decide) (fun i j hi hj _ he => getD_inj (by decide) hi hj he) (fun _ _ _ ⟨hG, _, hK⟩ => K.vle hK.drop1 hG) ?_ ?_ _ _ _ _ (G, [.int .i64 0, .slice none 0 0, .slice none 0 0, .slice none 0 0, .int .i64 0, .slice none 0 0, .slice none 0 0]) rfl (by decide) (fun _ h => h) ?_ (fun _ _ => rfl) ?_ ⟨VLe.refl _, rfl, hK⟩
  ·intro i hi
   have h := falses (r := [4, 5, 8, 9, 12, 16, 20, 21, 22, 25, 26, 27]) (by decide) hi
   simp only [List.mem_cons, List.not_mem_nil, or_false] at h
   rcases h with rfl | rfl | rfl | rfl | rfl | rfl | rfl | rfl | rfl | rfl | rfl | rfl
   ·intro o ho l s f w hln hun hcl hb hp hJ hdep R hR
    obtain rfl := Option.some.inj ho
    obtain ⟨hG, h7, hK⟩ := hJ
    obtain ⟨G1, cs⟩ := s
    simp only at hG h7 hK
    refine cl call54 (by show [f 6] = _; rw [hb 6 (by decide), k6]) (l3Copy_v hK (hW.ring.mono hG) hok') ?_
    rintro r w ⟨G2, qs, hG2, hq, hR2, hK⟩
    exact nl (hR _ _ (G2, cs) (fun x hx => upd_ne' hx) ⟨qs, hR2, hq.trans hW.rg⟩ (fun j u _ h => cpΨ.mono hG2 j u h) ⟨hG.trans hG2, h7, hK⟩)
   ·intro o ho l s f w hln hun hcl hb hp hJ hdep R hR
    obtain rfl := Option.some.inj ho
    obtain ⟨hG, h7, hK⟩ := hJ
    obtain ⟨G1, cs⟩ := s
    simp only at hG h7 hK
    refine bs0P hK underlying32 Ty.i78 fun b w hK => ?_
    exact nl (hR _ _ (G1, cs) (fun x hx => upd_ne' hx) ⟨b, rfl⟩ (fun j u _ h => h) ⟨hG, h7, hK⟩)
   ·intro o ho l s f w hln hun hcl hb hp hJ hdep R hR
    obtain rfl := Option.some.inj ho
    obtain ⟨hG, h7, hK⟩ := hJ
    obtain ⟨G1, cs⟩ := s
    simp only at hG h7 hK
    have D8 := dep_of hdep [5, 7, 4] rfl
    obtain ⟨b, hbv⟩ := hp 5 (D8 5 (by decide))
    refine ap0 (c := lc) (fun _ => rfl) rfl (fun _ => rfl) hK underlying32 Ty.i78 rfl rfl hbv ((hb 10 (by decide)).trans k10) (LeaS.mono hW.leases hG) (by omega) fun v G2 w hG2 hv hK => ?_
    exact nl (hR _ _ (G2, cs) (fun x hx => upd_ne' hx) hv (fun j u _ h => cpΨ.mono hG2 j u h) ⟨hG.trans hG2, h7, hK⟩)
   ·intro o ho l s f w hln hun hcl hb hp hJ hdep R hR
    obtain rfl := Option.some.inj ho
    obtain ⟨hG, h7, hK⟩ := hJ
    obtain ⟨G1, cs⟩ := s
    simp only at hG h7 hK
    refine bs0P hK underlying33 Ty.i84 fun b w hK => ?_
    exact nl (hR _ _ (G1, cs) (fun x hx => upd_ne' hx) ⟨b, rfl⟩ (fun j u _ h => h) ⟨hG, h7, hK⟩)
   ·intro o ho l s f w hln hun hcl hb hp hJ hdep R hR
    obtain rfl := Option.some.inj ho
    obtain ⟨hG, h7, hK⟩ := hJ
    obtain ⟨G1, cs⟩ := s
    simp only at hG h7 hK
    have D8 := dep_of hdep [9, 11, 8] rfl
    obtain ⟨b, hbv⟩ := hp 9 (D8 9 (by decide))
    refine ap0 (c := ic) (fun _ => rfl) rfl (fun _ => rfl) hK underlying33 Ty.i84 rfl rfl hbv ((hb 14 (by decide)).trans k14) (hW.items.mono hG) (by omega) fun v G2 w hG2 hv hK => ?_
    exact nl (hR _ _ (G2, cs) (fun x hx => upd_ne' hx) hv (fun j u _ h => cpΨ.mono hG2 j u h) ⟨hG.trans hG2, h7, hK⟩)
   ·intro o ho l s f w hln hun hcl hb hp hJ hdep R hR
    obtain rfl := Option.some.inj ho
    obtain ⟨hG, h7, hK⟩ := hJ
    obtain ⟨G1, cs⟩ := s
    simp only at hG h7 hK
    refine bs0P hK underlying25 Ty.i3 fun b w hK => ?_
    exact nl (hR _ _ (G1, cs) (fun x hx => upd_ne' hx) ⟨b, rfl⟩ (fun j u _ h => h) ⟨hG, h7, hK⟩)
   ·intro o ho l s f w hln hun hcl hb hp hJ hdep R hR
    obtain rfl := Option.some.inj ho
    obtain ⟨hG, h7, hK⟩ := hJ
    obtain ⟨G1, cs⟩ := s
    simp only at hG h7 hK
    have D8 := dep_of hdep [16, 19, 12] rfl
    obtain ⟨b, hbv⟩ := hp 16 (D8 16 (by decide))
    refine ap0I hK underlying25 Ty.i3 rfl hbv ((hb 22 (by decide)).trans k22) (hW.told.mono hG) (by omega) fun v G2 w hG2 hv hK => ?_
    exact nl (hR _ _ (G2, cs) (fun x hx => upd_ne' hx) hv (fun j u _ h => cpΨ.mono hG2 j u h) ⟨hG.trans hG2, h7, hK⟩)
   ·intro o ho l s f w hln hun hcl hb hp hJ hdep R hR
    obtain rfl := Option.some.inj ho
    obtain ⟨hG, h7, hK⟩ := hJ
    obtain ⟨G1, cs⟩ := s
    simp only at hG h7 hK
    have D8 := dep_of hdep [15, 20] rfl
    have h20 := hp 20 (D8 20 (by decide))
    refine vl (bd [(0, [.int .i64 W.next]), (1, [f 23])] Ty.p34 Ty.i34 rfl ⟨⟨rfl, cells_of ((hb 18 (by decide)).trans k18) rfl⟩, ⟨rfl, one_cells (SlW.one h20.1)⟩, trivial⟩ rfl) (nl (hR _ _ (G1, cs) (fun x hx => upd_ne' hx) ⟨f 23, rfl, h20⟩ (fun j u _ h => h) ⟨hG, h7, hK⟩))
   ·intro o ho l s f w hln hun hcl hb hp hJ hdep R hR
    obtain rfl := Option.some.inj ho
    obtain ⟨hG, h7, hK⟩ := hJ
    obtain ⟨G1, cs⟩ := s
    simp only at hG h7 hK
    refine bs0P hK underlying25 Ty.i3 fun b w hK => ?_
    exact nl (hR _ _ (G1, cs) (fun x hx => upd_ne' hx) ⟨b, rfl⟩ (fun j u _ h => h) ⟨hG, h7, hK⟩)
   ·intro o ho l s f w hln hun hcl hb hp hJ hdep R hR
    obtain rfl := Option.some.inj ho
    obtain ⟨hG, h7, hK⟩ := hJ
    obtain ⟨G1, cs⟩ := s
    simp only at hG h7 hK
    have D8 := dep_of hdep [22, 24, 20] rfl
    obtain ⟨b, hbv⟩ := hp 22 (D8 22 (by decide))
    refine ap0I hK underlying25 Ty.i3 rfl hbv ((hb 27 (by decide)).trans k27) (hW.since.mono hG) (by omega) fun v G2 w hG2 hv hK => ?_
    exact nl (hR _ _ (G2, cs) (fun x hx => upd_ne' hx) hv (fun j u _ h => cpΨ.mono hG2 j u h) ⟨hG.trans hG2, h7, hK⟩)
   ·intro o ho l s f w hln hun hcl hb hp hJ hdep R hR
    obtain rfl := Option.some.inj ho
    obtain ⟨hG, h7, hK⟩ := hJ
    obtain ⟨G1, cs⟩ := s
    simp only at hG h7 hK
    have D8 := dep_of hdep [1, 4, 8, 12, 21, 25] rfl
    obtain ⟨qs, hq1, hq2⟩ := hp 4 (D8 4 (by decide))
    have h8 := hp 8 (D8 8 (by decide))
    have h12 := hp 12 (D8 12 (by decide))
    obtain ⟨t, ht1, ht2⟩ := hp 21 (D8 21 (by decide))
    have h25 := hp 25 (D8 25 (by decide))
    refine vl (bd [(0, [.int .i64 W.now]), (1, [f 7]), (2, [f 11]), (3, [f 15]), (4, [.int .i64 W.next, t]), (5, [f 28])] Ty.p36 Ty.i36 rfl ⟨⟨rfl, cells_of ((hb 4 (by decide)).trans k4) rfl⟩, ⟨rfl, one_cells hq1.sl.1.one⟩, ⟨rfl, one_cells (SlW.one h8.1)⟩, ⟨rfl, one_cells (SlW.one h12.1)⟩, ⟨rfl, cells_of ht1 rfl⟩, ⟨rfl, one_cells (SlW.one h25.1)⟩, trivial⟩ rfl) (nl (hR _ _ (G1, cs) (fun x hx => upd_ne' hx) ⟨⟨W.now, f 7, f 11, f 15, W.next, t, f 28⟩, qs, rfl, ⟨hW.now, hq1, hq2, h8, h12, hW.next, ht2, h25⟩⟩ (fun j u _ h => h) ⟨hG, h7, hK⟩))
   ·intro o ho l s f w hln hun hcl hb hp hJ hdep R hR
    obtain rfl := Option.some.inj ho
    obtain ⟨hG, h7, hK⟩ := hJ
    obtain ⟨G1, cs⟩ := s
    simp only at hG h7 hK
    have D8 := hp 26 (hdep ⟨26, .data⟩ (List.mem_cons_self ..) rfl)
    obtain ⟨V, qs, hv1, hv2⟩ := D8
    have hcs : cs.take 0 ++ wc V ++ cs.drop (0 + (wc V).length) = wc V := by
     rw [List.take_zero, List.nil_append, List.drop_eq_nil_of_le (by rw [h7]; exact Nat.le_refl _), List.append_nil]
    refine soS hK Ty.i36 0 rfl ((hb 2 (by decide)).trans k2) hv1 rfl (WdS.one hv2) (by rw [h7]; rfl) (fun w hK => nl (hR _ _ (G1, wc V) (fun _ _ => rfl) ⟨V, qs, rfl, hv2⟩ (fun j u hj h => cpΨ.cs j u hj h) ⟨hG, rfl, by rw [hcs] at hK; exact hK⟩))
  ·intro l s f w hall hb hp hJ
   obtain ⟨V, qs, h1, h2⟩ := hp 27 (by decide)
   obtain ⟨G1, cs⟩ := s
   simp only at h1 h2
   subst h1
   exact ⟨(G1, V, qs), ⟨(hb 2 (by decide)).trans k2, trivial⟩, hJ.1, h2, hJ.2.2⟩
  ·exact clo_of kr
  ·intro i hi
   have h := trues (r := [0, 1, 2, 3, 6, 7, 10, 11, 13, 14, 15, 17, 18, 19, 23, 24]) (by decide) hi
   simp only [List.mem_cons, List.not_mem_nil, or_false] at h
   rcases h with rfl | rfl | rfl | rfl | rfl | rfl | rfl | rfl | rfl | rfl | rfl | rfl | rfl | rfl | rfl | rfl <;> trivial
 ·rintro ⟨G', W', rs'⟩ g w ⟨hG, hW', hK⟩
  refine thn <| rt <| pg1r (rvS hK Ty.a36 Ty.s36 0 rfl rfl rfl) <| ?_
  simp only at hG hW' hK
  exact ⟨G', W', rs', hG, rfl, hW', hK.drop1.drop1⟩
end
open Go Go.Ro Tryz
section
variable {e w : World} {G : View} {L A : Own} {v u : Value} {xs ys : List Int} {ls ms : List Ls} {rs qs : List Rn} {zs ts : List It} {W W' : Wv} {wd wd' : Wd} {a b c k kd id other : Int} {i j bk o : Nat}
def oo : Option Own → Own
 | none => []
 | some A => A
def coΨ (W : Wv) (wd : Wd) (i : Nat) (s : View × List Value × Option Own × Option Own) (u : Value) : Prop :=
 match i with
 | 4 => ∃ qs, RngS s.1 u qs ∧ rgl qs = wd.ring
 | 5 => ∃ b : Nat, u = .slice (some ⟨b, 0, none⟩) 0 0
 | 9 => ∃ b : Nat, u = .slice (some ⟨b, 0, none⟩) 0 0
 | 16 => ∃ b : Nat, u = .slice (some ⟨b, 0, none⟩) 0 0
 | 22 => ∃ b : Nat, u = .slice (some ⟨b, 0, none⟩) 0 0
 | 8 => LeaS s.1 u wd.leases
 | 12 => ∃ A, s.2.2.1 = some A ∧ OSx 2 84 u wd.items.length (wd.items.flatMap ic) A
 | 20 => IntS s.1 u wd.scan.2
 | 21 => ∃ t, u = .agg #[.int .i64 W.next, t] ∧ IntS s.1 t wd.scan.2
 | 25 => ∃ A, s.2.2.2 = some A ∧ OSx 1 3 u wd.since.length (wd.since.flatMap fun n => [.int .i64 n]) A
 | 26 => ∃ V qs A B, s.2.2.1 = some A ∧ s.2.2.2 = some B ∧ u = .agg (wc V).toArray ∧ WdO s.1 lc 84 3 V wd qs A B
 | 27 => ∃ V qs A B, s.2.2.1 = some A ∧ s.2.2.2 = some B ∧ s.2.1 = wc V ∧ WdO s.1 lc 84 3 V wd qs A B
 | _ => True
theorem coΨ.mono {W : Wv} {wd : Wd} {G G' : View} {x : List Value × Option Own × Option Own} (hG : VLe G G') : ∀ (i : Nat) (u : Value), coΨ W wd i (G, x) u → coΨ W wd i (G', x) u := by
 intro i u h
 unfold coΨ at h ⊢
 split at h
 all_goals first
  | exact h
  | exact SlR.mono (G := G) (G' := G') (fun _ _ h => h) h hG
  | (obtain ⟨V, qs, A, B, a, b, h1, h2⟩ := h; exact ⟨V, qs, A, B, a, b, h1, h2.mono hG⟩)
  | (obtain ⟨qs, h1, h2⟩ := h; exact ⟨qs, h1.mono hG, h2⟩)
  | (obtain ⟨t, h1, h2⟩ := h; exact ⟨t, h1, IntS.mono h2 hG⟩)
theorem coΨ.cs {W : Wv} {wd : Wd} {G : View} {cs cs' : List Value} {x : Option Own × Option Own} : ∀ (i : Nat) (u : Value), i ≠ 27 → coΨ W wd i (G, cs, x) u → coΨ W wd i (G, cs', x) u := by
 intro i u hi h
 unfold coΨ at h ⊢
 split at h
 all_goals first
  | exact h
  | exact absurd rfl hi
theorem coΨ.as {W : Wv} {wd : Wd} {G : View} {cs : List Value} {x : Option Own} {A : Own} : ∀ (i : Nat) (u : Value), i ≠ 25 → coΨ W wd i (G, cs, x, none) u → coΨ W wd i (G, cs, x, some A) u := by
 intro i u hi h
 unfold coΨ at h ⊢
 split at h
 all_goals first
  | exact h
  | exact absurd rfl hi
  | (obtain ⟨_, _, _, _, _, h, _⟩ := h; exact absurd h (by simp))
end
open Go Go.Ro Tryz
section
variable {e w : World} {G : View} {L A : Own} {v u : Value} {xs ys : List Int} {ls ms : List Ls} {rs qs : List Rn} {zs ts : List It} {W W' : Wv} {wd wd' : Wd} {a b c k kd id other : Int} {i j bk o : Nat}
def ec (kd a b c : Int) : List Value := [.int .i64 kd, .int .i64 a, .int .i64 b, .int .i64 c]
def scΨ (bk : Nat) (W : Wv) (wd : Wd) (i : Nat) (s : View × List Value) (u : Value) : Prop :=
 match i with
 | 1 => u = W.l
 | 3 => u = W.i
 | 4 => IntS s.1 u (keys wd.items)
 | 6 => u = .agg #[.int .i64 W.next, W.t]
 | 7 => ∃ t, u = .agg #[.int .i64 (stp wd.leases (keys wd.items) (W.next, wd.scan.2)).1, t] ∧ IntS s.1 t (stp wd.leases (keys wd.items) (W.next, wd.scan.2)).2
 | 8 => u = .pointer (some ⟨bk, 4, none⟩)
 | 9 => ∃ t, s.2 = wc { W with next := (stp wd.leases (keys wd.items) (W.next, wd.scan.2)).1, t := t } ∧ IntS s.1 t (stp wd.leases (keys wd.items) (W.next, wd.scan.2)).2
 | _ => True
theorem scΨ.mono {bk : Nat} {W : Wv} {wd : Wd} {G G' : View} {cs : List Value} (hG : VLe G G') : ∀ (i : Nat) (u : Value), scΨ bk W wd i (G, cs) u → scΨ bk W wd i (G', cs) u := by
 intro i u h
 unfold scΨ at h ⊢
 split at h
 all_goals first
  | exact h
  | exact IntS.mono h hG
  | (obtain ⟨t, h1, h2⟩ := h; exact ⟨t, h1, IntS.mono h2 hG⟩)
theorem scΨ.cs {bk : Nat} {W : Wv} {wd : Wd} {G : View} {cs cs' : List Value} : ∀ (i : Nat) (u : Value), i ≠ 9 → scΨ bk W wd i (G, cs) u → scΨ bk W wd i (G, cs') u := by
 intro i u hi h
 unfold scΨ at h ⊢
 split at h
 all_goals first
  | exact h
  | exact absurd rfl hi
end
open Go Go.Ro Tryz
section
variable {e w : World} {G : View} {L A : Own} {v u : Value} {xs ys : List Int} {ls ms : List Ls} {rs qs : List Rn} {zs ts : List It} {W W' : Wv} {wd wd' : Wd} {a b c k kd id other : Int} {i j bk o : Nat}
end
open Go Go.Ro Tryz
section
variable {e w : World} {G : View} {L A : Own} {v u : Value} {xs ys : List Int} {ls ms : List Ls} {rs qs : List Rn} {zs ts : List It} {W W' : Wv} {wd wd' : Wd} {a b c k kd id other : Int} {i j bk o : Nat}
end
open Go Go.Ro Tryz
section
variable {e w : World} {G : View} {L A : Own} {v u : Value} {xs ys : List Int} {ls ms : List Ls} {rs qs : List Rn} {zs ts : List It} {W W' : Wv} {wd wd' : Wd} {a b c k kd id other : Int} {i j bk o : Nat}
end
open Go Go.Ro Tryz
section
variable {e w : World} {G : View} {L A : Own} {v u : Value} {rs qs : List Rn} {W W' : Wv} {wd wd' : Wd} {a b c k kd : Int}
end
open Go Go.Ro Tryz
section
variable {e w : World} {G : View} {L : Own} {C : World → Prop}
end
open Go Go.Ro Tryz
section
variable {e w : World} {G : View} {L : Own} {C : World → Prop}
variable {rb : Nat} {cva : Value} {code : List Int} {p : Int}
end
end Go.Proofs.YtmgggljicpmndaaGreat