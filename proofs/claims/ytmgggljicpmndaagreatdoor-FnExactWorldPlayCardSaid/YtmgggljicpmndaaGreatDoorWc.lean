/- The program's worlds: items found, put and erased. Contracts of the specification's copies of worlds. Conditions: those that each row states. -/
import Derived.Test.YtmgggljicpmndaaGreatDoorRv
import Derived.Test.YtmgggljicpmndaaGreatDoorWm2
import Derived.Test.YtmgggljicpmndaaGreatDoorAo
namespace Go.Proofs.YtmgggljicpmndaaGreatDoor
open Go Go.Ro Tryz
section
variable {e w : World} {G : View} {L A AI AS : Own} {v u m0 m1 : Value} {rs qs : List Rn} {zs : List It} {W W' : Wv} {wd wd' : Wd} {a b c k kd id other key : Int} {i bk o : Nat}
theorem findItem1_c (hK : K e w G L) {x : It} (hx : Pt x.1) (hk : Pt k) : Ret prog 196 #[.agg (ic x).toArray, .int .i64 k] w (fun r w' => (∃ m, r = .int .i64 m ∧ (m < 0 ↔ x.1 < k) ∧ (m = 0 ↔ x.1 = k)) ∧ K e w' G L) := by
 have h1 := hx.1
 have h2 := hx.2
 have h3 := hk.1
 have h4 := hk.2
 refine enter1 (args := [.agg (ic x).toArray, .int .i64 k]) func196 rfl rfl rfl rfl ?_
 refine sq <| rg <| ?_
 refine bx hK rfl rfl ?_
 intro b2 w hK
 refine vl (aI rfl) <| nl <| thn <| sq <| rg <| vl (fa underlying104 rfl Ty.z3 rfl) <| vl (ldO hK Ty.o3 0 rfl rfl rfl) <| vl (mI rfl) <| vl (sb rfl rfl) <| vl (aI rfl) <| nl <| thn <| rt <| p1r (a := .int _ _) rfl <| ?_
 exact ⟨⟨_, rfl, by omega, by omega⟩, hK.drop1⟩
theorem it_pw (h : ItOk zs) : zs.Pairwise (fun a b => a.1 < b.1) := by
 have := h.2.2
 unfold keys at this
 exact (List.pairwise_map (f := fun x : It => x.1) (R := fun a b : Int => a < b)).1 this
theorem it_pt (h : ItOk zs) : ∀ x ∈ zs, Pt x.1 := fun x hx => h.2.1 x.1 (List.mem_map.2 ⟨x, hx, rfl⟩)
theorem findItem_c (hK : K e w G L) (hc : ∀ (j : Nat) u, (wc W)[j]? = some u → cellV G ⟨bk, o + j, none⟩ = some u) (hW : WdS G lc W wd rs) (hit : ItOk wd.items) (hl : wd.items.length ≤ 1000000) (hk : Pt k) :
  Ret prog 160 #[.pointer (some ⟨bk, o, none⟩), .int .i64 k] w (fun r w' => (∃ (i : Nat) (b : Bool), r = .tuple #[.int .i64 (i : Int), .bool b] ∧ BsR (fun x : It => x.1) wd.items k i b) ∧ K e w' G L) := by
 refine enter2 (args := [.pointer (some ⟨bk, o, none⟩), .int .i64 k]) func160 rfl rfl rfl rfl ?_
 refine sq <| rg <| ?_
 refine vl (aI rfl) <| vl (aB rfl) <| nl <| thn <| sq <| rg <| vl mv <| vl (nc rfl) <| vl (fa underlying31 rfl Ty.z27 rfl) <| vl (ldV hK Ty.o27 rfl (hc 3 _ rfl)) <| vl (mI rfl) <| ?_
 refine cl call195 rfl (bsearchI_c (cap := []) (key := fun x : It => x.1) call196 hK hW.items hl (it_pw hit) (fun x hx w hK => findItem1_c hK (it_pt hit x hx) hk)) ?_
 rintro _ w ⟨⟨i, b, rfl, hb⟩, hK⟩
 refine vl (ext rfl rfl) <| vl (ext rfl rfl) <| vl (aI rfl) <| vl (aB rfl) <| nl <| thn <| rt <| p2r (a := .int _ _) (b := .bool _) rfl rfl <| ?_
 exact ⟨⟨i, b, rfl, hb⟩, hK⟩
theorem erase1_c {t : Nat} (hK : K e w G L) (hn : (o, row [.int .i64 k] t) ∈ L) : Ret prog 164 #[.int .i64 a, .pointer (some ⟨o, 0, none⟩)] w (fun r w' => r = .bool (decide (a = k)) ∧ K e w' G L) := by
 refine enter1 (args := [.int .i64 a, .pointer (some ⟨o, 0, none⟩)]) func164 rfl rfl rfl rfl ?_
 refine sq <| rg <| ?_
 refine vl (aB rfl) <| nl <| thn <| sq <| rg <| vl (mI rfl) <| vl (ldC Ty.o3 rfl (row_cell (l := [Value.int .i64 k]) (hK.own _ _ hn))) <| vl (eq rfl rfl) <| vl (aB rfl) <| nl <| thn <| rt <| p1r (a := .bool _) rfl <| ?_
 exact ⟨rfl, hK⟩
theorem flt_ne {xs : List Int} {k : Int} : (xs.filter fun x => !decide (x = k)) = xs.filter (fun x => decide (x ≠ k)) := by
 apply List.filter_congr
 intro x _
 by_cases h : x = k <;> simp [h]
theorem owns_c (hK : K e w G L) (hc : ∀ (j : Nat) u, (wc W)[j]? = some u → cellV G ⟨bk, o + j, none⟩ = some u) (hW : WdS G lc W wd rs) (hok : LsOk wd.leases) (hrg : RgOk wd.ring) :
  Ret prog 117 #[.pointer (some ⟨bk, o, none⟩), .int .i64 id, .int .i64 key] w (fun r w' => r = .bool (dec (id ∈ ids wd.ring ∧ Pt key ∧ own wd key = id)) ∧ K e w' G L) := by
 have e2 := hW.rg
 refine enter1 (args := [.pointer (some ⟨bk, o, none⟩), .int .i64 id, .int .i64 key]) func117 rfl rfl rfl rfl ?_
 refine sq <| rg <| ?_
 refine vl (aB rfl) <| nl <| thn <| sq <| rg <| vl mv <| vl (mI rfl) <| ?_
 refine cl call118 rfl (live_c hK hc hW.ring) ?_
 rintro _ w ⟨rfl, hK⟩
 refine vl (mB rfl) <| ?_
 refine splP (t := 10) rfl (fun h1 => ?_) fun h1 => ?_
 ·have h0 : 0 ≤ id := by
   rw [e2] at h1
   obtain ⟨x, hx, rfl⟩ := List.mem_map.1 h1
   exact (hrg.2.1 x hx).1.1
  refine gy rfl <| vl mv <| gy rfl <| vl (mI rfl) <| gy rfl <| ?_
  refine cl call125 rfl (ownerA_c hK hc hW hok) ?_
  rintro _ w ⟨n, rfl, hn, hn2, hK⟩
  refine gy rfl <| vl (mI rfl) <| gy rfl <| vl (eq rfl rfl) <| vl (pk rfl) <| vl (aB rfl) <| nl <| thn <| rt <| p1r (a := .bool _) rfl <| ?_
  refine ⟨congrArg Value.bool ?_, hK⟩
  refine (dec_dec (p := n = id)).symm.trans (dec_congr ⟨fun h => ?_, fun h => ?_⟩)
  ·have hp : Pt key := Classical.byContradiction fun hp => by have := hn2 hp; omega
   exact ⟨by rw [← e2]; exact h1, hp, (hn hp).symm.trans h⟩
  ·rw [hn h.2.1]; exact h.2.2
 ·refine gn rfl <| gn rfl <| gn rfl <| gn rfl <| gn rfl <| vl (pk rfl) <| vl (aB rfl) <| nl <| thn <| rt <| p1r (a := .bool _) rfl <| ?_
  exact ⟨by rw [dec_f fun h => h1 (by rw [e2]; exact h.1)], hK⟩
end
open Go Go.Ro Tryz
section
variable {e w : World} {G : View} {L A : Own} {v u : Value} {xs ys : List Int} {ls ms : List Ls} {rs qs : List Rn} {zs ts : List It} {W W' : Wv} {wd wd' : Wd} {a b c k kd id other : Int} {i j bk o : Nat}
def cpΨ (W : Wv) (wd : Wd) (i : Nat) (s : View × List Value) (u : Value) : Prop :=
 match i with
 | 4 => ∃ qs, RngS s.1 u qs ∧ rgl qs = wd.ring
 | 5 => ∃ b : Nat, u = .slice (some ⟨b, 0, none⟩) 0 0
 | 9 => ∃ b : Nat, u = .slice (some ⟨b, 0, none⟩) 0 0
 | 16 => ∃ b : Nat, u = .slice (some ⟨b, 0, none⟩) 0 0
 | 22 => ∃ b : Nat, u = .slice (some ⟨b, 0, none⟩) 0 0
 | 8 => LeaS s.1 u wd.leases
 | 12 => ItS s.1 u wd.items
 | 20 => IntS s.1 u wd.scan.2
 | 21 => ∃ t, u = .agg #[.int .i64 W.next, t] ∧ IntS s.1 t wd.scan.2
 | 25 => IntS s.1 u wd.since
 | 26 => ∃ V qs, u = .agg (wc V).toArray ∧ WdS s.1 lc V wd qs
 | 27 => ∃ V qs, s.2 = wc V ∧ WdS s.1 lc V wd qs
 | _ => True
theorem cpΨ.mono {W : Wv} {wd : Wd} {G G' : View} {cs : List Value} (hG : VLe G G') : ∀ (i : Nat) (u : Value), cpΨ W wd i (G, cs) u → cpΨ W wd i (G', cs) u := by
 intro i u h
 unfold cpΨ at h ⊢
 split at h
 all_goals first
  | exact h
  | exact SlR.mono (G := G) (G' := G') (fun _ _ h => h) h hG
  | (obtain ⟨qs, h1, h2⟩ := h; exact ⟨qs, h1.mono hG, h2⟩)
  | (obtain ⟨t, h1, h2⟩ := h; exact ⟨t, h1, IntS.mono h2 hG⟩)
  | (obtain ⟨V, qs, h1, h2⟩ := h; exact ⟨V, qs, h1, h2.mono hG⟩)
theorem cpΨ.cs {W : Wv} {wd : Wd} {G : View} {cs cs' : List Value} : ∀ (i : Nat) (u : Value), i ≠ 27 → cpΨ W wd i (G, cs) u → cpΨ W wd i (G, cs') u := by
 intro i u hi h
 unfold cpΨ at h ⊢
 split at h
 all_goals first
  | exact h
  | exact absurd rfl hi
theorem l51Copy_c (hK : K e w G L) (hW : WdS G lc W wd rs) (hok : RgOk wd.ring) (hll : wd.leases.length ≤ 1000000) (hil : wd.items.length ≤ 1000000) (htl : wd.scan.2.length ≤ 1000000) (hsl : wd.since.length ≤ 1000000) :
  Ret prog 24 #[.agg (wc W).toArray] w (fun r w' => ∃ G' W' rs', VLe G G' ∧ r = .agg (wc W').toArray ∧ WdS G' lc W' wd rs' ∧ K e w' G' L) := by
 have hok' : RgOk (rgl rs) := by rw [hW.rg]; exact hok
 refine enterG1 (args := [.agg (wc W).toArray]) func24 rfl rfl rfl rfl ?_
 refine sq <| rg <| ?_
 refine bx hK rfl rfl ?_
 intro b1 w hK
 refine al hK Ty.i31 rfl ?_
 intro b2 w hK
 refine nl <| thn <| sq <| ?_
 refine ct (σ := View × Wv × List Rn) (fun s => [(2, .pointer (some ⟨b2, 0, none⟩))]) (fun s w => VLe G s.1 ∧ WdS s.1 lc s.2.1 wd s.2.2 ∧ K e w s.1 ((b2, row (wc s.2.1) 31) :: (b1, row (wc W) 31) :: L)) ?_ ?_
 ·skip
  refine rgs (fun w => K e w G ((b1, row (wc W) 31) :: L)) (fun w => K _ w _ _) [U,U,U,U,U,U,U,U,U,U,U,U,U,U,U,U,U,U,U,U,U,U,U,U,U,U,U,U] 28 Ty.mixed rfl rfl (hK.drawn _) ?_
  intro w hK
  have hS : (fun w => K e w G ((b1, row (wc W) 31) :: L)) w := K.sl hK
  refine xt (i := 0) rfl kr rfl rfl (fun w hK => (fa underlying31 rfl Ty.z3 rfl)) hS <| xt (i := 1) rfl kr rfl rfl (fun w hK => (ldO hK Ty.o3 0 rfl rfl rfl)) hS <| xt (i := 2) rfl kr rfl rfl (fun w hK => (fa underlying31 rfl Ty.z25 rfl)) hS <| xt (i := 3) rfl kr rfl rfl (fun w hK => (ldO hK Ty.o25 0 rfl rfl rfl)) hS <| xt (i := 6) rfl kr rfl rfl (fun w hK => (fa underlying31 rfl Ty.z26 rfl)) hS <| xt (i := 7) rfl kr rfl rfl (fun w hK => (ldO hK Ty.o26 0 rfl rfl rfl)) hS <| xt (i := 10) rfl kr rfl rfl (fun w hK => (fa underlying31 rfl Ty.z27 rfl)) hS <| xt (i := 11) rfl kr rfl rfl (fun w hK => (ldO hK Ty.o27 0 rfl rfl rfl)) hS <| xt (i := 13) rfl kr rfl rfl (fun w hK => (fa underlying31 rfl Ty.z29 rfl)) hS <| xt (i := 14) rfl kr rfl rfl (fun w hK => (fa underlying29 rfl Ty.z3 rfl)) hS <| xt (i := 15) rfl kr rfl rfl (fun w hK => (ldO hK Ty.o3 0 rfl rfl rfl)) hS <| xt (i := 17) rfl kr rfl rfl (fun w hK => (fa underlying31 rfl Ty.z29 rfl)) hS <| xt (i := 18) rfl kr rfl rfl (fun w hK => (fa underlying29 rfl Ty.z22 rfl)) hS <| xt (i := 19) rfl kr rfl rfl (fun w hK => (ldO hK Ty.o22 0 rfl rfl rfl)) hS <| xt (i := 23) rfl kr rfl rfl (fun w hK => (fa underlying31 rfl Ty.z22 rfl)) hS <| xt (i := 24) rfl kr rfl rfl (fun w hK => (ldO hK Ty.o22 0 rfl rfl rfl)) hS <| ?_
  refine forgetF (p := fun f0 => WX _ _ _ _ _ _ _ f0 w) [(2, .pointer (some ⟨b2, 0, none⟩)), (4, .int .i64 W.now), (6, W.r), (10, W.l), (14, W.i), (18, .int .i64 W.next), (22, W.t), (27, W.s)] ⟨rfl, rfl, rfl, rfl, rfl, rfl, rfl, rfl, trivial⟩ ?_
  rintro f0 ⟨k2, k4, k6, k10, k14, k18, k22, k27, _⟩
  refine anyO (σ := View × List Value) (J := fun _ s w => VLe G s.1 ∧ s.2.length = 7 ∧ K e w s.1 ((b2, row s.2 31) :: (b1, row (wc W) 31) :: L)) (Ψ := cpΨ W wd) (D := [7, 8, 11, 12, 15, 19, 23, 24, 25, 28, 29, 9027]) (d := fun i => [9100, 9101, 9102, 9103, 7, 8, 9106, 9107, 11, 12, 9110, 9111, 15, 9113, 9114, 9115, 19, 9117, 9118, 9119, 23, 24, 25, 9123, 9124, 28, 29, 9027].getD i 0) kr (fun i _ hi => by have h := falses (r := [4, 5, 8, 9, 12, 16, 20, 21, 22, 25, 26, 27]) (by decide) hi; revert i; decide) (fun i j hi hj _ he => getD_inj (by decide) hi hj he) (fun _ _ _ ⟨hG, _, hK⟩ => K.vle hK.drop1 hG) ?_ ?_ _ _ _ _ (G, [.int .i64 0, .slice none 0 0, .slice none 0 0, .slice none 0 0, .int .i64 0, .slice none 0 0, .slice none 0 0]) rfl (by decide) (fun _ h => h) ?_ (fun _ _ => rfl) ?_ ⟨VLe.refl _, rfl, hK⟩
  ·intro i hi
   have h := falses (r := [4, 5, 8, 9, 12, 16, 20, 21, 22, 25, 26, 27]) (by decide) hi
   simp only [List.mem_cons, List.not_mem_nil, or_false] at h
   rcases h with rfl | rfl | rfl | rfl | rfl | rfl | rfl | rfl | rfl | rfl | rfl | rfl
   ·intro o ho l s f w hln hun hcl hb hp hJ hdep R hR
    obtain rfl := Option.some.inj ho
    obtain ⟨hG, h7, hK⟩ := hJ
    obtain ⟨G1, cs⟩ := s
    simp only at hG h7 hK
    refine cl call61 (by show [f 6] = _; rw [hb 6 (by decide), k6]) (l3Copy_v hK (hW.ring.mono hG) hok') ?_
    rintro r w ⟨G2, qs, hG2, hq, hR2, hK⟩
    exact nl (hR _ _ (G2, cs) (fun x hx => upd_ne' hx) ⟨qs, hR2, hq.trans hW.rg⟩ (fun j u _ h => cpΨ.mono hG2 j u h) ⟨hG.trans hG2, h7, hK⟩)
   ·intro o ho l s f w hln hun hcl hb hp hJ hdep R hR
    obtain rfl := Option.some.inj ho
    obtain ⟨hG, h7, hK⟩ := hJ
    obtain ⟨G1, cs⟩ := s
    simp only at hG h7 hK
    refine bs0P hK underlying26 Ty.i101 fun b w hK => ?_
    exact nl (hR _ _ (G1, cs) (fun x hx => upd_ne' hx) ⟨b, rfl⟩ (fun j u _ h => h) ⟨hG, h7, hK⟩)
   ·intro o ho l s f w hln hun hcl hb hp hJ hdep R hR
    obtain rfl := Option.some.inj ho
    obtain ⟨hG, h7, hK⟩ := hJ
    obtain ⟨G1, cs⟩ := s
    simp only at hG h7 hK
    have D8 := dep_of hdep [5, 7, 4] rfl
    obtain ⟨b, hbv⟩ := hp 5 (D8 5 (by decide))
    refine ap0 (c := lc) (fun _ => rfl) rfl (fun _ => rfl) hK underlying26 Ty.i101 rfl rfl hbv ((hb 10 (by decide)).trans k10) (LeaS.mono hW.leases hG) (by omega) fun v G2 w hG2 hv hK => ?_
    exact nl (hR _ _ (G2, cs) (fun x hx => upd_ne' hx) hv (fun j u _ h => cpΨ.mono hG2 j u h) ⟨hG.trans hG2, h7, hK⟩)
   ·intro o ho l s f w hln hun hcl hb hp hJ hdep R hR
    obtain rfl := Option.some.inj ho
    obtain ⟨hG, h7, hK⟩ := hJ
    obtain ⟨G1, cs⟩ := s
    simp only at hG h7 hK
    refine bs0P hK underlying27 Ty.i104 fun b w hK => ?_
    exact nl (hR _ _ (G1, cs) (fun x hx => upd_ne' hx) ⟨b, rfl⟩ (fun j u _ h => h) ⟨hG, h7, hK⟩)
   ·intro o ho l s f w hln hun hcl hb hp hJ hdep R hR
    obtain rfl := Option.some.inj ho
    obtain ⟨hG, h7, hK⟩ := hJ
    obtain ⟨G1, cs⟩ := s
    simp only at hG h7 hK
    have D8 := dep_of hdep [9, 11, 8] rfl
    obtain ⟨b, hbv⟩ := hp 9 (D8 9 (by decide))
    refine ap0 (c := ic) (fun _ => rfl) rfl (fun _ => rfl) hK underlying27 Ty.i104 rfl rfl hbv ((hb 14 (by decide)).trans k14) (hW.items.mono hG) (by omega) fun v G2 w hG2 hv hK => ?_
    exact nl (hR _ _ (G2, cs) (fun x hx => upd_ne' hx) hv (fun j u _ h => cpΨ.mono hG2 j u h) ⟨hG.trans hG2, h7, hK⟩)
   ·intro o ho l s f w hln hun hcl hb hp hJ hdep R hR
    obtain rfl := Option.some.inj ho
    obtain ⟨hG, h7, hK⟩ := hJ
    obtain ⟨G1, cs⟩ := s
    simp only at hG h7 hK
    refine bs0P hK underlying22 Ty.i3 fun b w hK => ?_
    exact nl (hR _ _ (G1, cs) (fun x hx => upd_ne' hx) ⟨b, rfl⟩ (fun j u _ h => h) ⟨hG, h7, hK⟩)
   ·intro o ho l s f w hln hun hcl hb hp hJ hdep R hR
    obtain rfl := Option.some.inj ho
    obtain ⟨hG, h7, hK⟩ := hJ
    obtain ⟨G1, cs⟩ := s
    simp only at hG h7 hK
    have D8 := dep_of hdep [16, 19, 12] rfl
    obtain ⟨b, hbv⟩ := hp 16 (D8 16 (by decide))
    refine ap0I hK underlying22 Ty.i3 rfl hbv ((hb 22 (by decide)).trans k22) (hW.told.mono hG) (by omega) fun v G2 w hG2 hv hK => ?_
    exact nl (hR _ _ (G2, cs) (fun x hx => upd_ne' hx) hv (fun j u _ h => cpΨ.mono hG2 j u h) ⟨hG.trans hG2, h7, hK⟩)
   ·intro o ho l s f w hln hun hcl hb hp hJ hdep R hR
    obtain rfl := Option.some.inj ho
    obtain ⟨hG, h7, hK⟩ := hJ
    obtain ⟨G1, cs⟩ := s
    simp only at hG h7 hK
    have D8 := dep_of hdep [15, 20] rfl
    have h20 := hp 20 (D8 20 (by decide))
    refine vl (bd [(0, [.int .i64 W.next]), (1, [f 23])] Ty.p29 Ty.i29 rfl ⟨⟨rfl, cells_of ((hb 18 (by decide)).trans k18) rfl⟩, ⟨rfl, one_cells (SlW.one h20.1)⟩, trivial⟩ rfl) (nl (hR _ _ (G1, cs) (fun x hx => upd_ne' hx) ⟨f 23, rfl, h20⟩ (fun j u _ h => h) ⟨hG, h7, hK⟩))
   ·intro o ho l s f w hln hun hcl hb hp hJ hdep R hR
    obtain rfl := Option.some.inj ho
    obtain ⟨hG, h7, hK⟩ := hJ
    obtain ⟨G1, cs⟩ := s
    simp only at hG h7 hK
    refine bs0P hK underlying22 Ty.i3 fun b w hK => ?_
    exact nl (hR _ _ (G1, cs) (fun x hx => upd_ne' hx) ⟨b, rfl⟩ (fun j u _ h => h) ⟨hG, h7, hK⟩)
   ·intro o ho l s f w hln hun hcl hb hp hJ hdep R hR
    obtain rfl := Option.some.inj ho
    obtain ⟨hG, h7, hK⟩ := hJ
    obtain ⟨G1, cs⟩ := s
    simp only at hG h7 hK
    have D8 := dep_of hdep [22, 24, 20] rfl
    obtain ⟨b, hbv⟩ := hp 22 (D8 22 (by decide))
    refine ap0I hK underlying22 Ty.i3 rfl hbv ((hb 27 (by decide)).trans k27) (hW.since.mono hG) (by omega) fun v G2 w hG2 hv hK => ?_
    exact nl (hR _ _ (G2, cs) (fun x hx => upd_ne' hx) hv (fun j u _ h => cpΨ.mono hG2 j u h) ⟨hG.trans hG2, h7, hK⟩)
   ·intro o ho l s f w hln hun hcl hb hp hJ hdep R hR
    obtain rfl := Option.some.inj ho
    obtain ⟨hG, h7, hK⟩ := hJ
    obtain ⟨G1, cs⟩ := s
    simp only at hG h7 hK
    have D8 := dep_of hdep [1, 4, 8, 12, 21, 25] rfl
    obtain ⟨qs, hq1, hq2⟩ := hp 4 (D8 4 (by decide))
    have h8 := hp 8 (D8 8 (by decide))
    have h12 := hp 12 (D8 12 (by decide))
    obtain ⟨t, ht1, ht2⟩ := hp 21 (D8 21 (by decide))
    have h25 := hp 25 (D8 25 (by decide))
    refine vl (bd [(0, [.int .i64 W.now]), (1, [f 7]), (2, [f 11]), (3, [f 15]), (4, [.int .i64 W.next, t]), (5, [f 28])] Ty.p31 Ty.i31 rfl ⟨⟨rfl, cells_of ((hb 4 (by decide)).trans k4) rfl⟩, ⟨rfl, one_cells hq1.sl.1.one⟩, ⟨rfl, one_cells (SlW.one h8.1)⟩, ⟨rfl, one_cells (SlW.one h12.1)⟩, ⟨rfl, cells_of ht1 rfl⟩, ⟨rfl, one_cells (SlW.one h25.1)⟩, trivial⟩ rfl) (nl (hR _ _ (G1, cs) (fun x hx => upd_ne' hx) ⟨⟨W.now, f 7, f 11, f 15, W.next, t, f 28⟩, qs, rfl, ⟨hW.now, hq1, hq2, h8, h12, hW.next, ht2, h25⟩⟩ (fun j u _ h => h) ⟨hG, h7, hK⟩))
   ·intro o ho l s f w hln hun hcl hb hp hJ hdep R hR
    obtain rfl := Option.some.inj ho
    obtain ⟨hG, h7, hK⟩ := hJ
    obtain ⟨G1, cs⟩ := s
    simp only at hG h7 hK
    have D8 := hp 26 (hdep ⟨26, .data⟩ (List.mem_cons_self ..) rfl)
    obtain ⟨V, qs, hv1, hv2⟩ := D8
    have hcs : cs.take 0 ++ wc V ++ cs.drop (0 + (wc V).length) = wc V := by
     rw [List.take_zero, List.nil_append, List.drop_eq_nil_of_le (by rw [h7]; exact Nat.le_refl _), List.append_nil]
    refine soS hK Ty.i31 0 rfl ((hb 2 (by decide)).trans k2) hv1 rfl (WdS.one hv2) (by rw [h7]; rfl) (fun w hK => nl (hR _ _ (G1, wc V) (fun _ _ => rfl) ⟨V, qs, rfl, hv2⟩ (fun j u hj h => cpΨ.cs j u hj h) ⟨hG, rfl, by rw [hcs] at hK; exact hK⟩))
  ·intro l s f w hall hb hp hJ
   obtain ⟨V, qs, h1, h2⟩ := hp 27 (by decide)
   obtain ⟨G1, cs⟩ := s
   simp only at h1 h2
   subst h1
   exact ⟨(G1, V, qs), ⟨(hb 2 (by decide)).trans k2, trivial⟩, hJ.1, h2, hJ.2.2⟩
  ·exact clo_of kr
  ·intro i hi
   have h := trues (r := [0, 1, 2, 3, 6, 7, 10, 11, 13, 14, 15, 17, 18, 19, 23, 24]) (by decide) hi
   simp only [List.mem_cons, List.not_mem_nil, or_false] at h
   rcases h with rfl | rfl | rfl | rfl | rfl | rfl | rfl | rfl | rfl | rfl | rfl | rfl | rfl | rfl | rfl | rfl <;> trivial
 ·rintro ⟨G', W', rs'⟩ g w ⟨hG, hW', hK⟩
  refine thn <| rt <| pg1r (rvS hK Ty.a31 Ty.s31 0 rfl rfl rfl) <| ?_
  simp only at hG hW' hK
  exact ⟨G', W', rs', hG, rfl, hW', hK.drop1.drop1⟩
end
end Go.Proofs.YtmgggljicpmndaaGreatDoor
