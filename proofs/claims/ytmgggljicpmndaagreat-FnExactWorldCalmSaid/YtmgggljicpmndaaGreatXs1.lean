/- Contracts of the functions that copy a law's world: the copy lies in new memory. How many numbers a world holds. Conditions: those that each row states. -/
import Derived.Test.YtmgggljicpmndaaGreatWe
import Derived.Test.YtmgggljicpmndaaGreatPlM
import Derived.Test.YtmgggljicpmndaaGreatRgG
namespace Go.Proofs.YtmgggljicpmndaaGreat
open Go Go.Ro Tryz
section
variable {e w : World} {G G0 : View} {L A : Own} {v u t t2 : Value} {xs ys : List Int} {ls ms : List Ls} {rs qs : List Rn} {zs ts : List It} {W W' : Wv} {wd wd' : Wd} {n m k : Int}
theorem toIntSF_v (hG0 : VLe G0 G) (hK : K e w G L) (hv : IntS G v xs) (hl : xs.length ≤ 1048576) :
  Ret prog 25 #[v] w (fun r w' => ∃ G', VLe G G' ∧ IntS G' r xs ∧ New 1 3 G0 G' r xs.length (ints xs) ∧ (∀ b ∈ bl r, G b = none) ∧ K e w' G' L) :=
 (toIntS_o hK hv hl).mono fun _ _ ⟨_, ho, hK⟩ => K.pubOF hK ho hG0
theorem toLeaseSF_v (hG0 : VLe G0 G) (hK : K e w G L) (hv : LeaS G v ls) (hl : ls.length ≤ 1048576) :
  Ret prog 22 #[v] w (fun r w' => ∃ G', VLe G G' ∧ LeaS G' r ls ∧ New 3 78 G0 G' r ls.length (ls.flatMap lc) ∧ (∀ b ∈ bl r, G b = none) ∧ K e w' G' L) :=
 (toLeaseS_c hK hv hl).mono fun _ _ ⟨_, ho, hK⟩ => K.pubEF (fun _ => rfl) hK ho hG0
theorem toItemSF_v (hG0 : VLe G0 G) (hK : K e w G L) (hv : ItS G v zs) (hl : zs.length ≤ 1048576) :
  Ret prog 23 #[v] w (fun r w' => ∃ G', VLe G G' ∧ ItS G' r zs ∧ New 2 84 G0 G' r zs.length (zs.flatMap ic) ∧ (∀ b ∈ bl r, G b = none) ∧ K e w' G' L) :=
 (toItemS_c hK hv hl).mono fun _ _ ⟨_, ho, hK⟩ => K.pubEF (fun _ => rfl) hK ho hG0
theorem toScanF_v {ts : List Int} (hG0 : VLe G0 G) (hK : K e w G L) (ht : IntS G t ts) (hl : ts.length ≤ 1048576) :
  Ret prog 24 #[.agg #[.int .i64 n, t]] w (fun r w' => ∃ G' t', r = .agg #[.int .i64 n, t'] ∧ VLe G G' ∧ IntS G' t' ts ∧ New 1 3 G0 G' t' ts.length (ints ts) ∧ (∀ b ∈ bl t', G b = none) ∧ K e w' G' L) :=
 (toScan_c hK ht hl).mono fun _ _ ⟨t', _, hr, ho, hK⟩ => let ⟨G', h1, h2, h3, h4, h5⟩ := K.pubOF hK ho hG0; ⟨G', t', hr, h1, h2, h3, h4, h5⟩
theorem toNodeF_v (hG0 : VLe G0 G) (hK : K e w G L) {x : Rn} (hx : IntS G x.2.2.1 x.2.2.2) (hl : x.2.2.2.length ≤ 1048576) :
  Ret prog 57 #[.agg (rc x).toArray] w (fun r w' => ∃ G' t, r = .agg (rc (x.1, x.2.1, t, x.2.2.2)).toArray ∧ VLe G G' ∧ IntS G' t x.2.2.2 ∧ New 1 3 G0 G' t x.2.2.2.length (ints x.2.2.2) ∧ (∀ b ∈ bl t, G b = none) ∧ K e w' G' L) := by
 refine enterG1 (args := [.agg (rc x).toArray]) func57 rfl rfl rfl rfl ?_
 refine sq <| rg <| ?_
 refine bx hK rfl rfl ?_
 intro b1 w hK
 refine al hK Ty.i79 rfl ?_
 intro b2 w hK
 refine nl <| thn <| sq <| rg <| ?_
 refine al hK Ty.i79 rfl ?_
 intro b3 w hK
 refine nl <| thn <| sq <| rg <| vl (fa underlying68 rfl Ty.z3 rfl) <| vl (ldO hK Ty.o3 2 rfl rfl rfl) <| vl (fa underlying79 rfl Ty.z3 rfl) <| ?_
 refine so hK Ty.i3 rfl 0 rfl rfl rfl rfl rfl ?_
 intro w hK
 refine nl <| thn <| sq <| rg <| vl (fa underlying68 rfl Ty.z3 rfl) <| vl (ldO hK Ty.o3 2 rfl rfl rfl) <| vl (fa underlying79 rfl Ty.z3 rfl) <| ?_
 refine so hK Ty.i3 rfl 0 rfl rfl rfl rfl rfl ?_
 intro w hK
 refine nl <| thn <| sq <| rg <| vl (fa underlying68 rfl Ty.z25 rfl) <| vl (ldO hK Ty.o25 2 rfl rfl rfl) <| ?_
 refine cl call25 rfl (toIntSF_v hG0 hK hx hl) ?_
 rintro t12 w ⟨G1, hG1, ht, htn, htb, hK⟩
 refine vl (fa underlying79 rfl Ty.z25 rfl) <| ?_
 refine so hK Ty.i25 rfl 0 rfl rfl rfl (SlW.one ht.1) rfl ?_
 intro w hK
 refine nl <| thn <| sq <| rg <| vl (lsO hK Ty.a79 Ty.s79 0 rfl rfl rfl) <| ?_
 refine soS hK Ty.i79 1 rfl rfl rfl rfl (allc rfl (allc rfl (allc (SlW.one ht.1) rfl))) rfl ?_
 intro w hK
 refine nl <| thn <| rt <| pg1r (rvS hK Ty.a79 Ty.s79 1 rfl rfl rfl) <| ?_
 exact ⟨G1, t12, rfl, hG1, ht, htn, htb, hK.drop1.drop1.drop1⟩
theorem toNodeSF_v (hK : K e w G L) (hv : RngS G v rs) (hl : rs.length ≤ 1048576) (hll : ∀ x ∈ rs, x.2.2.2.length ≤ 1048576) :
  Ret prog 21 #[v] w (fun r w' => ∃ G' qs, VLe G G' ∧ RngS G' r qs ∧ RgNew 79 3 G G' r qs ∧ rgl qs = rgl rs ∧ K e w' G' L) := by
 have hs := hv.sl
 refine enter1 (args := [v]) func21 rfl rfl rfl rfl ?_
 refine sq <| rg <| ?_
 refine vl asg <| nl <| thn <| sq <| rg <| vl mv <| vl (ln underlying22 rfl hs.len) <| ?_
 refine mks hK underlying31 Ty.i79 rfl rfl rfl rfl rfl om rfl ?_
 intro b7 w ho7 hK
 refine vl asg <| nl <| thn <| sq <| sq <| rg <| vl (aI rfl) <| nl <| thn <| bk <| ?_
 rw [show ([.int .i64 0, .int .i64 0, .slice none 0 0] : List Value) = rc (0, 0, .slice none 0 0, []) from rfl, flat_rep] at hK ho7
 refine lp (σ := View × Nat × Own × List Rn) (fun s => [(0, v), (3, .slice (some ⟨b7, 0, none⟩) rs.length rs.length), (4, .int .i64 (s.2.1 : Int))]) (fun s w => VLe G s.1 ∧ s.2.1 ≤ rs.length ∧ s.2.2.2.length = s.2.1 ∧ rgl s.2.2.2 = rgl (rs.take s.2.1) ∧ (∀ x ∈ s.2.2.2, IntS s.1 x.2.2.1 x.2.2.2) ∧ RnF 3 G s.1 s.2.2.2 ∧ OS 3 79 (.slice (some ⟨b7, 0, none⟩) rs.length rs.length) rs.length ((s.2.2.2 ++ List.replicate (rs.length - s.2.1) ((0, 0, .slice none 0 0, []) : Rn)).flatMap rc) s.2.2.1 ∧ K e w s.1 (s.2.2.1 ++ L)) (fun s => rs.length - s.2.1) (G, 0, [_], []) ⟨rfl, rfl, rfl, trivial⟩ ⟨VLe.refl _, Nat.zero_le _, rfl, rfl, fun _ h => (nomatch h), RnF.nil, by simpa using ho7, by simpa using hK⟩ ?_
 rintro ⟨G1, i, A, qs⟩ g w ⟨hG, hi, hql, hq, hqa, hnf, ho, hK⟩
 simp only at hG hi hql hq hqa hnf ho hK
 have hs1 := EF.mono hs hG
 refine sq <| sq <| rg <| ?_
 refine vl (mI rfl) <| vl mv <| vl (ln underlying22 rfl hs1.len) <| vl (lt rfl rfl) <| nl <| thn <| ?_
 refine cdP rfl (fun hc => ?_) fun hc => ?_
 ·have hi' : i < rs.length := by simp only at hc; omega
  refine sk <| thn <| sq <| bk <| rg <| ?_
  refine vl mv <| vl (mI rfl) <| vl mv <| vl (mI rfl) <| vl (ixn underlying22 Ty.s68 rfl hs1.1 rfl om) <| vl (lsF hK Ty.a68 Ty.s68 rfl hs1 om) <| ?_
  refine cl call57 rfl (toNodeF_v hG hK (IntS.mono (hv.at hi') hG) (hll _ (List.getElem_mem hi'))) ?_
  rintro _ w ⟨G2, t, rfl, hG2, ht, htn, htb, hK⟩
  refine vl (ixn underlying31 Ty.s79 rfl ho.slw rfl om) <| ?_
  refine osSetS (i := i) (us := rc (rs[i].1, rs[i].2.1, t, rs[i].2.2.2)) hK ho om Ty.i79 rfl rfl rfl (allc rfl (allc rfl (allc (SlW.one ht.1) rfl))) fun A' w ho hK => ?_
  rw [flat_sets (c := rc) (sz := 3) rc_len _ i (rs[i].1, rs[i].2.1, t, rs[i].2.2.2) (by rw [List.length_append, List.length_replicate]; omega)] at ho
  have hs := set_next (us := qs) (z := ((0, 0, .slice none 0 0, []) : Rn)) (u := (rs[i].1, rs[i].2.1, t, rs[i].2.2.2)) (i := i) (m := rs.length) hql hi'
  rw [Nat.zero_add] at hs
  rw [hs] at ho
  refine nl <| bkn <| thn <| rg <| vl (mI rfl) <| vl (ad rfl rfl) <| vl (aI rfl) <| nl <| thn <| ?_
  exact ⟨(G2, i + 1, A', qs ++ [(rs[i].1, rs[i].2.1, t, rs[i].2.2.2)]), ⟨rfl, rfl, rfl, trivial⟩, ⟨hG.trans hG2, hi', by simp [hql], by rw [rgl_take_succ hi', ← hq]; unfold rgl; rw [List.map_append]; rfl, fun x hx => by
   rcases List.mem_append.1 hx with h | h
   ·exact (hqa x h).mono hG2
   ·obtain rfl := List.mem_singleton.1 h; exact ht, hnf.snoc htn hG2 htb, ho, hK⟩, by simp only; omega⟩
 ·have hi' : i = rs.length := by simp only at hc; omega
  subst hi'
  refine ex <| the <| the <| bkh <| thn <| sq <| rg <| ?_
  refine vl mv <| vl asg <| nl <| thn <| rt <| p1r (a := _) rfl <| ?_
  rw [List.take_length] at hq
  rw [Nat.sub_self, List.replicate_zero, List.append_nil, ← hql] at ho
  obtain ⟨G2, hG2, hr, hrn, hK⟩ := OR.pubF ⟨ho, hqa⟩ hnf hK hG
  rw [hql] at hr hrn
  exact ⟨G2, qs, hG.trans hG2, hr, hrn, hq, hK⟩
theorem toWorldF_v (hK : K e w G L) (hW : WdS G lc W wd rs) (hl : WdL wd) :
  Ret prog 6 #[.agg (wc W).toArray] w (fun r w' => ∃ G' W' qs, r = .agg (wc W').toArray ∧ VLe G G' ∧ WdS G' lc W' wd qs ∧ WdF lc 79 78 84 3 G G' W' wd qs ∧ K e w' G' L) := by
 obtain ⟨g1, g2, g3, g4, g5, g6⟩ := hl
 have hrl : rs.length ≤ 1048576 := by rw [← hW.rg, rg_len] at g1; exact g1
 have hra : ∀ x ∈ rs, x.2.2.2.length ≤ 1048576 := fun x hx => g2 (nd x) (by rw [← hW.rg]; exact List.mem_map.2 ⟨x, hx, rfl⟩)
 refine enterG1 (args := [.agg (wc W).toArray]) func6 rfl rfl rfl rfl ?_
 refine sq <| rg <| ?_
 refine bx hK rfl rfl ?_
 intro b1 w hK
 refine al hK Ty.i36 rfl ?_
 intro b2 w hK
 refine nl <| thn <| sq <| rg <| ?_
 refine al hK Ty.i36 rfl ?_
 intro b3 w hK
 refine nl <| thn <| sq <| rg <| vl (fa underlying29 rfl Ty.z3 rfl) <| vl (ldO hK Ty.o3 2 rfl rfl rfl) <| vl (fa underlying36 rfl Ty.z3 rfl) <| ?_
 refine so hK Ty.i3 rfl 0 rfl rfl rfl rfl rfl ?_
 intro w hK
 refine nl <| thn <| sq <| rg <| vl (fa underlying29 rfl Ty.z22 rfl) <| vl (ldO hK Ty.o22 2 rfl rfl rfl) <| ?_
 refine cl call21 rfl (toNodeSF_v hK hW.ring hrl hra) ?_
 rintro v9 w ⟨G1, qs, hG1, hr, hrn, hq, hK⟩
 refine vl (fa underlying36 rfl Ty.z31 rfl) <| ?_
 refine so hK Ty.i31 rfl 0 rfl rfl rfl (SlW.one hr.sl.1) rfl ?_
 intro w hK
 refine nl <| thn <| sq <| rg <| vl (fa underlying29 rfl Ty.z23 rfl) <| vl (ldO hK Ty.o23 2 rfl rfl rfl) <| ?_
 refine cl call22 rfl (toLeaseSF_v hG1 hK (LeaS.mono hW.leases hG1) g3) ?_
 rintro v13 w ⟨G2, hG2, h13, n13, f13, hK⟩
 have hGa := hG1.trans hG2
 refine vl (fa underlying36 rfl Ty.z32 rfl) <| ?_
 refine so hK Ty.i32 rfl 0 rfl rfl rfl (SlW.one h13.1) rfl ?_
 intro w hK
 refine nl <| thn <| sq <| rg <| vl (fa underlying29 rfl Ty.z24 rfl) <| vl (ldO hK Ty.o24 2 rfl rfl rfl) <| ?_
 refine cl call23 rfl (toItemSF_v hGa hK (hW.items.mono hGa) g4) ?_
 rintro v17 w ⟨G3, hG3, h17, n17, f17, hK⟩
 have hGb := hGa.trans hG3
 refine vl (fa underlying36 rfl Ty.z33 rfl) <| ?_
 refine so hK Ty.i33 rfl 0 rfl rfl rfl (SlW.one h17.1) rfl ?_
 intro w hK
 refine nl <| thn <| sq <| rg <| vl (fa underlying29 rfl Ty.z27 rfl) <| vl (lsP (u := [.int .i64 W.next, W.t]) hK Ty.a27 Ty.s27 2 rfl rfl rfl rfl) <| ?_
 refine cl call24 rfl (toScanF_v hGb hK (hW.told.mono hGb) g5) ?_
 rintro _ w ⟨G4, v21, rfl, hG4, h21, n21, f21, hK⟩
 have hGc := hGb.trans hG4
 refine vl (fa underlying36 rfl Ty.z34 rfl) <| ?_
 refine soS hK Ty.i34 0 rfl rfl rfl rfl (allc rfl (allc (SlW.one h21.1) rfl)) rfl ?_
 intro w hK
 refine nl <| thn <| sq <| rg <| vl (fa underlying29 rfl Ty.z25 rfl) <| vl (ldO hK Ty.o25 2 rfl rfl rfl) <| ?_
 refine cl call25 rfl (toIntSF_v hGc hK (hW.since.mono hGc) g6) ?_
 rintro v25 w ⟨G5, hG5, h25, n25, f25, hK⟩
 have hGd := hGc.trans hG5
 have hW5 : WdS G5 lc ⟨W.now, v9, v13, v17, W.next, v21, v25⟩ wd qs := ⟨hW.now, hr.mono (((hG2.trans hG3).trans hG4).trans hG5), hq.trans hW.rg, LeaS.mono h13 ((hG3.trans hG4).trans hG5), h17.mono (hG4.trans hG5), hW.next, h21.mono hG5, h25⟩
 refine vl (fa underlying36 rfl Ty.z25 rfl) <| ?_
 refine so hK Ty.i25 rfl 0 rfl rfl rfl (SlW.one h25.1) rfl ?_
 intro w hK
 refine nl <| thn <| sq <| rg <| vl (lsO hK Ty.a36 Ty.s36 0 rfl rfl rfl) <| ?_
 refine soS hK Ty.i36 1 rfl rfl rfl rfl (WdS.one hW5) rfl ?_
 intro w hK
 refine nl <| thn <| rt <| pg1r (rvS hK Ty.a36 Ty.s36 1 rfl rfl rfl) <| ?_
 exact ⟨G5, _, qs, rfl, hGd, hW5, wdf5 hrn n13 f13 n17 f17 n21 f21 n25 f25 hG2 hG3 hG4 hG5, hK.drop1.drop1.drop1⟩
end
open Go Go.Ro Tryz
section
variable {e w : World} {G : View} {L : Own} {v u : Value} {rs qs : List Rn} {W W' : Wv} {wd wd' : Wd} {n m k : Int}
theorem wdL_sz (hl : WdL wd) (hr : rgl rs = wd.ring) : wsz wd rs ≤ 2000000000000 := by
 obtain ⟨g1, g2, g3, g4, g5, g6⟩ := hl
 have h1 : nsz rs ≤ 1048578 * rs.length := by
  rw [nsz_rg, hr]
  have h2 : (wd.ring.map fun n => 2 + n.2.2.length).length = rs.length := by rw [List.length_map, ← hr, rg_len]
  rw [← h2]
  refine sum_le fun x hx => ?_
  obtain ⟨y, hy, rfl⟩ := List.mem_map.1 hx
  have := g2 y hy; omega
 have h3 : rs.length ≤ 1048576 := by rw [← hr, rg_len] at g1; exact g1
 unfold wsz
 omega
theorem wdok_sz (h : WdOk wd) (hr : rgl rs = wd.ring) : wsz wd rs ≤ 100000 := by
 have hrg : RgOk wd.ring := h.2.1.1
 have h1 : nsz rs ≤ 4 * rs.length := by
  rw [nsz_rg, hr]
  have h2 : (wd.ring.map fun n => 2 + n.2.2.length).length = rs.length := by rw [List.length_map, ← hr, rg_len]
  rw [← h2]
  refine sum_le fun x hx => ?_
  obtain ⟨y, hy, rfl⟩ := List.mem_map.1 hx
  have := (hrg.2.1 y hy).2.2.1; omega
 have h3 : rs.length ≤ 10 := by have := hrg.1; rw [← hr, rg_len] at this; exact this
 have h4 := h.2.2.1.1.2
 have h5 := h.wda.zl
 have h6 := h.2.2.2.2.1.2.1.len
 have h7 := h.2.2.2.2.2.1.len
 unfold wsz
 omega
theorem wdZ_sz (hr : rgl rs = wdZ.ring) : wsz wdZ rs ≤ 100000 := by
 have : rs = [] := by
  have := congrArg List.length hr
  rw [rg_len] at this
  exact List.eq_nil_of_length_eq_zero this
 subst this
 unfold wsz wdZ nsz; simp
end
end Go.Proofs.YtmgggljicpmndaaGreat
