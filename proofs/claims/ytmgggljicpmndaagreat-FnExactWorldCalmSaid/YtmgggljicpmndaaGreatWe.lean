/- Contracts of the functions that copy, measure and compare worlds. Conditions: those that each row states. -/
import Derived.Test.YtmgggljicpmndaaGreatWm
import Derived.Test.YtmgggljicpmndaaGreatSe
namespace Go.Proofs.YtmgggljicpmndaaGreat
open Go Go.Ro Tryz
section
variable {e w : World} {G : View} {L A : Own} {v u t t2 : Value} {xs ys : List Int} {ls ms : List Ls} {rs qs : List Rn} {zs ts : List It} {W W' : Wv} {wd wd' : Wd} {n m k : Int}
theorem toNode_v (hK : K e w G L) {x : Rn} (hx : IntS G x.2.2.1 x.2.2.2) (hl : x.2.2.2.length ≤ 1048576) :
  Ret prog 57 #[.agg (rc x).toArray] w (fun r w' => ∃ G' t, r = .agg (rc (x.1, x.2.1, t, x.2.2.2)).toArray ∧ VLe G G' ∧ IntS G' t x.2.2.2 ∧ K e w' G' L) := by
 refine enterG1 (args := [.agg (rc x).toArray]) func57 rfl rfl rfl rfl ?_
 refine sq <| rg <| ?_
 refine bx hK rfl rfl ?_
 intro b1 w hK
 refine al hK Ty.i79 rfl ?_
 intro b2 w hK
 refine nl <| thn <| sq <| rg <| ?_
 refine al hK Ty.i79 rfl ?_
 intro b3 w hK
 refine nl <| thn <| sq <| rg <| vl (fa underlying68 rfl Ty.z3 rfl) <| vl (ldO hK Ty.o3 2 rfl rfl rfl) <| vl (fa underlying79 rfl Ty.z3 rfl) <| ?_
 refine so hK Ty.i3 rfl 0 rfl rfl rfl rfl rfl ?_
 intro w hK
 refine nl <| thn <| sq <| rg <| vl (fa underlying68 rfl Ty.z3 rfl) <| vl (ldO hK Ty.o3 2 rfl rfl rfl) <| vl (fa underlying79 rfl Ty.z3 rfl) <| ?_
 refine so hK Ty.i3 rfl 0 rfl rfl rfl rfl rfl ?_
 intro w hK
 refine nl <| thn <| sq <| rg <| vl (fa underlying68 rfl Ty.z25 rfl) <| vl (ldO hK Ty.o25 2 rfl rfl rfl) <| ?_
 refine cl call25 rfl (toIntS_v hK hx hl) ?_
 rintro t12 w ⟨G1, hG1, ht, hK⟩
 refine vl (fa underlying79 rfl Ty.z25 rfl) <| ?_
 refine so hK Ty.i25 rfl 0 rfl rfl rfl (SlW.one ht.1) rfl ?_
 intro w hK
 refine nl <| thn <| sq <| rg <| vl (lsO hK Ty.a79 Ty.s79 0 rfl rfl rfl) <| ?_
 refine soS hK Ty.i79 1 rfl rfl rfl rfl (allc rfl (allc rfl (allc (SlW.one ht.1) rfl))) rfl ?_
 intro w hK
 refine nl <| thn <| rt <| pg1r (rvS hK Ty.a79 Ty.s79 1 rfl rfl rfl) <| ?_
 exact ⟨G1, t12, rfl, hG1, ht, hK.drop1.drop1.drop1⟩
theorem toNodeS_v (hK : K e w G L) (hv : RngS G v rs) (hl : rs.length ≤ 1048576) (hll : ∀ x ∈ rs, x.2.2.2.length ≤ 1048576) :
  Ret prog 21 #[v] w (fun r w' => ∃ G' qs, VLe G G' ∧ RngS G' r qs ∧ rgl qs = rgl rs ∧ K e w' G' L) := by
 have hs := hv.sl
 refine enter1 (args := [v]) func21 rfl rfl rfl rfl ?_
 refine sq <| rg <| ?_
 refine vl asg <| nl <| thn <| sq <| rg <| vl mv <| vl (ln underlying22 rfl hs.len) <| ?_
 refine mks hK underlying31 Ty.i79 rfl rfl rfl rfl rfl om rfl ?_
 intro b7 w ho7 hK
 refine vl asg <| nl <| thn <| sq <| sq <| rg <| vl (aI rfl) <| nl <| thn <| bk <| ?_
 rw [show ([.int .i64 0, .int .i64 0, .slice none 0 0] : List Value) = rc (0, 0, .slice none 0 0, []) from rfl, flat_rep] at hK ho7
 refine lp (σ := View × Nat × Own × List Rn) (fun s => [(0, v), (3, .slice (some ⟨b7, 0, none⟩) rs.length rs.length), (4, .int .i64 (s.2.1 : Int))]) (fun s w => VLe G s.1 ∧ s.2.1 ≤ rs.length ∧ s.2.2.2.length = s.2.1 ∧ rgl s.2.2.2 = rgl (rs.take s.2.1) ∧ (∀ x ∈ s.2.2.2, IntS s.1 x.2.2.1 x.2.2.2) ∧ OS 3 79 (.slice (some ⟨b7, 0, none⟩) rs.length rs.length) rs.length ((s.2.2.2 ++ List.replicate (rs.length - s.2.1) ((0, 0, .slice none 0 0, []) : Rn)).flatMap rc) s.2.2.1 ∧ K e w s.1 (s.2.2.1 ++ L)) (fun s => rs.length - s.2.1) (G, 0, [_], []) ⟨rfl, rfl, rfl, trivial⟩ ⟨VLe.refl _, Nat.zero_le _, rfl, rfl, fun _ h => (nomatch h), by simpa using ho7, by simpa using hK⟩ ?_
 rintro ⟨G1, i, A, qs⟩ g w ⟨hG, hi, hql, hq, hqa, ho, hK⟩
 simp only at hG hi hql hq hqa ho hK
 have hs1 := EF.mono hs hG
 refine sq <| sq <| rg <| ?_
 refine vl (mI rfl) <| vl mv <| vl (ln underlying22 rfl hs1.len) <| vl (lt rfl rfl) <| nl <| thn <| ?_
 refine cdP rfl (fun hc => ?_) fun hc => ?_
 ·have hi' : i < rs.length := by simp only at hc; omega
  refine sk <| thn <| sq <| bk <| rg <| ?_
  refine vl mv <| vl (mI rfl) <| vl mv <| vl (mI rfl) <| vl (ixn underlying22 Ty.s68 rfl hs1.1 rfl om) <| vl (lsF hK Ty.a68 Ty.s68 rfl hs1 om) <| ?_
  refine cl call57 rfl (toNode_v hK (IntS.mono (hv.at hi') hG) (hll _ (List.getElem_mem hi'))) ?_
  rintro _ w ⟨G2, t, rfl, hG2, ht, hK⟩
  refine vl (ixn underlying31 Ty.s79 rfl ho.slw rfl om) <| ?_
  refine osSetS (i := i) (us := rc (rs[i].1, rs[i].2.1, t, rs[i].2.2.2)) hK ho om Ty.i79 rfl rfl rfl (allc rfl (allc rfl (allc (SlW.one ht.1) rfl))) fun A' w ho hK => ?_
  rw [flat_sets (c := rc) (sz := 3) rc_len _ i (rs[i].1, rs[i].2.1, t, rs[i].2.2.2) (by rw [List.length_append, List.length_replicate]; omega)] at ho
  have hs := set_next (us := qs) (z := ((0, 0, .slice none 0 0, []) : Rn)) (u := (rs[i].1, rs[i].2.1, t, rs[i].2.2.2)) (i := i) (m := rs.length) hql hi'
  rw [Nat.zero_add] at hs
  rw [hs] at ho
  refine nl <| bkn <| thn <| rg <| vl (mI rfl) <| vl (ad rfl rfl) <| vl (aI rfl) <| nl <| thn <| ?_
  exact ⟨(G2, i + 1, A', qs ++ [(rs[i].1, rs[i].2.1, t, rs[i].2.2.2)]), ⟨rfl, rfl, rfl, trivial⟩, ⟨hG.trans hG2, hi', by simp [hql], by rw [rgl_take_succ hi', ← hq]; unfold rgl; rw [List.map_append]; rfl, fun x hx => by
   rcases List.mem_append.1 hx with h | h
   ·exact (hqa x h).mono hG2
   ·obtain rfl := List.mem_singleton.1 h; exact ht, ho, hK⟩, by simp only; omega⟩
 ·have hi' : i = rs.length := by simp only at hc; omega
  subst hi'
  refine ex <| the <| the <| bkh <| thn <| sq <| rg <| ?_
  refine vl mv <| vl asg <| nl <| thn <| rt <| p1r (a := _) rfl <| ?_
  rw [List.take_length] at hq
  rw [Nat.sub_self, List.replicate_zero, List.append_nil, ← hql] at ho
  obtain ⟨G2, hG2, hr, hK⟩ := K.pubR hqa ho hK
  rw [hql] at hr
  exact ⟨G2, qs, hG.trans hG2, hr, hq, hK⟩
theorem toItem_c (hK : K e w G L) {x : It} : Ret prog 59 #[.agg (ic x).toArray] w (fun r w' => r = .agg (ic x).toArray ∧ K e w' G L) := by
 refine enterG1 (args := [.agg (ic x).toArray]) func59 rfl rfl rfl rfl ?_
 refine sq <| rg <| ?_
 refine bx hK rfl rfl ?_
 intro b1 w hK
 refine al hK Ty.i84 rfl ?_
 intro b2 w hK
 refine nl <| thn <| sq <| rg <| ?_
 refine al hK Ty.i84 rfl ?_
 intro b3 w hK
 refine nl <| thn <| sq <| rg <| vl (fa underlying86 rfl Ty.z3 rfl) <| vl (ldO hK Ty.o3 2 rfl rfl rfl) <| vl (fa underlying84 rfl Ty.z3 rfl) <| ?_
 refine so hK Ty.i3 rfl 0 rfl rfl rfl rfl rfl ?_
 intro w hK
 refine nl <| thn <| sq <| rg <| vl (fa underlying86 rfl Ty.z3 rfl) <| vl (ldO hK Ty.o3 2 rfl rfl rfl) <| vl (fa underlying84 rfl Ty.z3 rfl) <| ?_
 refine so hK Ty.i3 rfl 0 rfl rfl rfl rfl rfl ?_
 intro w hK
 refine nl <| thn <| sq <| rg <| vl (lsO hK Ty.a84 Ty.s84 0 rfl rfl rfl) <| ?_
 refine soS hK Ty.i84 1 rfl rfl rfl rfl rfl rfl ?_
 intro w hK
 refine nl <| thn <| rt <| pg1r (rvS hK Ty.a84 Ty.s84 1 rfl rfl rfl) <| ?_
 exact ⟨rfl, hK.drop1.drop1.drop1⟩
theorem toItemS_c (hK : K e w G L) (hv : ItS G v zs) (hl : zs.length ≤ 1048576) :
  Ret prog 23 #[v] w (fun r w' => ∃ A, OS 2 84 r zs.length (zs.flatMap ic) A ∧ K e w' G (A ++ L)) := by
 refine enter1 (args := [v]) func23 rfl rfl rfl rfl ?_
 refine sq <| rg <| ?_
 refine vl asg <| nl <| thn <| sq <| rg <| vl mv <| vl (ln underlying24 rfl hv.len) <| ?_
 refine mks hK underlying33 Ty.i84 rfl rfl rfl rfl rfl om rfl ?_
 intro b7 w ho7 hK
 refine vl asg <| nl <| thn <| sq <| sq <| rg <| vl (aI rfl) <| nl <| thn <| bk <| ?_
 rw [show ([.int .i64 0, .int .i64 0] : List Value) = ic (0, 0) from rfl, flat_rep] at hK ho7
 refine lp (σ := Nat × Own) (fun s => [(0, v), (3, .slice (some ⟨b7, 0, none⟩) zs.length zs.length), (4, .int .i64 (s.1 : Int))]) (fun s w => s.1 ≤ zs.length ∧ OS 2 84 (.slice (some ⟨b7, 0, none⟩) zs.length zs.length) zs.length ((zs.take s.1 ++ List.replicate (zs.length - s.1) (0, 0)).flatMap ic) s.2 ∧ K e w G (s.2 ++ L)) (fun s => zs.length - s.1) (0, [_]) ⟨rfl, rfl, rfl, trivial⟩ ⟨Nat.zero_le _, by simpa using ho7, by simpa using hK⟩ ?_
 rintro ⟨i, A⟩ g w ⟨hi, ho, hK⟩
 simp only at hi ho hK
 refine sq <| sq <| rg <| ?_
 refine vl (mI rfl) <| vl mv <| vl (ln underlying24 rfl hv.len) <| vl (lt rfl rfl) <| nl <| thn <| ?_
 refine cdP rfl (fun hc => ?_) fun hc => ?_
 ·have hi' : i < zs.length := by simp only at hc; omega
  refine sk <| thn <| sq <| bk <| rg <| ?_
  refine vl mv <| vl (mI rfl) <| vl mv <| vl (mI rfl) <| vl (ixn underlying24 Ty.s86 rfl hv.1 rfl om) <| vl (lsF hK Ty.a86 Ty.s86 rfl hv om) <| ?_
  refine cl call59 rfl (toItem_c hK) ?_
  rintro _ w ⟨rfl, hK⟩
  refine vl (ixn underlying33 Ty.s84 rfl ho.slw rfl om) <| ?_
  refine osSetS (i := i) (us := ic zs[i]) hK ho om Ty.i84 rfl rfl rfl rfl fun A' w ho hK => ?_
  rw [flat_sets (c := ic) (sz := 2) (fun _ => rfl) _ i zs[i] (by rw [List.length_append, List.length_take, List.length_replicate]; omega)] at ho
  have hs := set_next (us := zs.take i) (z := ((0, 0) : It)) (u := zs[i]) (i := i) (m := zs.length) (by rw [List.length_take]; omega) hi'
  rw [Nat.zero_add] at hs
  rw [hs, ← List.take_succ_eq_append_getElem hi'] at ho
  refine nl <| bkn <| thn <| rg <| vl (mI rfl) <| vl (ad rfl rfl) <| vl (aI rfl) <| nl <| thn <| ?_
  exact ⟨(i + 1, A'), ⟨rfl, rfl, rfl, trivial⟩, ⟨hi', ho, hK⟩, by simp only; omega⟩
 ·have : i = zs.length := by simp only at hc; omega
  subst this
  refine ex <| the <| the <| bkh <| thn <| sq <| rg <| ?_
  refine vl mv <| vl asg <| nl <| thn <| rt <| p1r (a := _) rfl <| ?_
  have ho' : OS 2 84 (.slice (some ⟨b7, 0, none⟩) zs.length zs.length) zs.length (zs.flatMap ic) A := by simpa using ho
  exact ⟨A, ho', hK⟩
theorem toItemS_v (hK : K e w G L) (hv : ItS G v zs) (hl : zs.length ≤ 1048576) :
  Ret prog 23 #[v] w (fun r w' => ∃ G', VLe G G' ∧ ItS G' r zs ∧ K e w' G' L) :=
 (toItemS_c hK hv hl).mono fun _ _ ⟨_, ho, hK⟩ => K.pubE (fun _ => rfl) hK ho
def WdL (wd : Wd) : Prop := wd.ring.length ≤ 1048576 ∧ (∀ x ∈ wd.ring, x.2.2.length ≤ 1048576) ∧ wd.leases.length ≤ 1048576 ∧ wd.items.length ≤ 1048576 ∧ wd.scan.2.length ≤ 1048576 ∧ wd.since.length ≤ 1048576
theorem toWorld_v (hK : K e w G L) (hW : WdS G lc W wd rs) (hl : WdL wd) :
  Ret prog 6 #[.agg (wc W).toArray] w (fun r w' => ∃ G' W' qs, r = .agg (wc W').toArray ∧ VLe G G' ∧ WdS G' lc W' wd qs ∧ K e w' G' L) := by
 obtain ⟨g1, g2, g3, g4, g5, g6⟩ := hl
 have hrl : rs.length ≤ 1048576 := by rw [← hW.rg, rg_len] at g1; exact g1
 have hra : ∀ x ∈ rs, x.2.2.2.length ≤ 1048576 := fun x hx => g2 (nd x) (by rw [← hW.rg]; exact List.mem_map.2 ⟨x, hx, rfl⟩)
 refine enterG1 (args := [.agg (wc W).toArray]) func6 rfl rfl rfl rfl ?_
 refine sq <| rg <| ?_
 refine bx hK rfl rfl ?_
 intro b1 w hK
 refine al hK Ty.i36 rfl ?_
 intro b2 w hK
 refine nl <| thn <| sq <| rg <| ?_
 refine al hK Ty.i36 rfl ?_
 intro b3 w hK
 refine nl <| thn <| sq <| rg <| vl (fa underlying29 rfl Ty.z3 rfl) <| vl (ldO hK Ty.o3 2 rfl rfl rfl) <| vl (fa underlying36 rfl Ty.z3 rfl) <| ?_
 refine so hK Ty.i3 rfl 0 rfl rfl rfl rfl rfl ?_
 intro w hK
 refine nl <| thn <| sq <| rg <| vl (fa underlying29 rfl Ty.z22 rfl) <| vl (ldO hK Ty.o22 2 rfl rfl rfl) <| ?_
 refine cl call21 rfl (toNodeS_v hK hW.ring hrl hra) ?_
 rintro v9 w ⟨G1, qs, hG1, hr, hq, hK⟩
 refine vl (fa underlying36 rfl Ty.z31 rfl) <| ?_
 refine so hK Ty.i31 rfl 0 rfl rfl rfl (SlW.one hr.sl.1) rfl ?_
 intro w hK
 refine nl <| thn <| sq <| rg <| vl (fa underlying29 rfl Ty.z23 rfl) <| vl (ldO hK Ty.o23 2 rfl rfl rfl) <| ?_
 refine cl call22 rfl (toLeaseS_v hK (LeaS.mono hW.leases hG1) g3) ?_
 rintro v13 w ⟨G2, hG2, h13, hK⟩
 have hGa := hG1.trans hG2
 refine vl (fa underlying36 rfl Ty.z32 rfl) <| ?_
 refine so hK Ty.i32 rfl 0 rfl rfl rfl (SlW.one h13.1) rfl ?_
 intro w hK
 refine nl <| thn <| sq <| rg <| vl (fa underlying29 rfl Ty.z24 rfl) <| vl (ldO hK Ty.o24 2 rfl rfl rfl) <| ?_
 refine cl call23 rfl (toItemS_v hK (hW.items.mono hGa) g4) ?_
 rintro v17 w ⟨G3, hG3, h17, hK⟩
 have hGb := hGa.trans hG3
 refine vl (fa underlying36 rfl Ty.z33 rfl) <| ?_
 refine so hK Ty.i33 rfl 0 rfl rfl rfl (SlW.one h17.1) rfl ?_
 intro w hK
 refine nl <| thn <| sq <| rg <| vl (fa underlying29 rfl Ty.z27 rfl) <| vl (lsP (u := [.int .i64 W.next, W.t]) hK Ty.a27 Ty.s27 2 rfl rfl rfl rfl) <| ?_
 refine cl call24 rfl (toScan_v hK (hW.told.mono hGb) g5) ?_
 rintro _ w ⟨G4, v21, rfl, hG4, h21, hK⟩
 have hGc := hGb.trans hG4
 refine vl (fa underlying36 rfl Ty.z34 rfl) <| ?_
 refine soS hK Ty.i34 0 rfl rfl rfl rfl (allc rfl (allc (SlW.one h21.1) rfl)) rfl ?_
 intro w hK
 refine nl <| thn <| sq <| rg <| vl (fa underlying29 rfl Ty.z25 rfl) <| vl (ldO hK Ty.o25 2 rfl rfl rfl) <| ?_
 refine cl call25 rfl (toIntS_v hK (hW.since.mono hGc) g6) ?_
 rintro v25 w ⟨G5, hG5, h25, hK⟩
 have hGd := hGc.trans hG5
 have hW5 : WdS G5 lc ⟨W.now, v9, v13, v17, W.next, v21, v25⟩ wd qs := ⟨hW.now, hr.mono (((hG2.trans hG3).trans hG4).trans hG5), hq.trans hW.rg, LeaS.mono h13 ((hG3.trans hG4).trans hG5), h17.mono (hG4.trans hG5), hW.next, h21.mono hG5, h25⟩
 refine vl (fa underlying36 rfl Ty.z25 rfl) <| ?_
 refine so hK Ty.i25 rfl 0 rfl rfl rfl (SlW.one h25.1) rfl ?_
 intro w hK
 refine nl <| thn <| sq <| rg <| vl (lsO hK Ty.a36 Ty.s36 0 rfl rfl rfl) <| ?_
 refine soS hK Ty.i36 1 rfl rfl rfl rfl (WdS.one hW5) rfl ?_
 intro w hK
 refine nl <| thn <| rt <| pg1r (rvS hK Ty.a36 Ty.s36 1 rfl rfl rfl) <| ?_
 exact ⟨G5, _, qs, rfl, hGd, hW5, hK.drop1.drop1.drop1⟩
theorem szNode_c (hK : K e w G L) {x : Rn} (hx : IntS G x.2.2.1 x.2.2.2) {n : Int} (h0 : 0 ≤ n) (h1 : n ≤ 1048576) :
  Ret prog 45 #[.agg (rc x).toArray, .int .i64 n] w (fun r w' => (∃ k, r = .int .i64 k ∧ -1 ≤ k ∧ k ≤ n ∧ (0 ≤ k → k = n - x.2.2.2.length)) ∧ K e w' G L) := by
 refine enter1 (args := [.agg (rc x).toArray, .int .i64 n]) func45 rfl rfl rfl rfl ?_
 refine sq <| rg <| ?_
 refine bx hK rfl rfl ?_
 intro b2 w hK
 refine vl (aI rfl) <| nl <| thn <| sq <| rg <| vl (fa underlying68 rfl Ty.z25 rfl) <| vl (ldO hK Ty.o25 0 rfl rfl rfl) <| vl (mI rfl) <| ?_
 refine cl call15 rfl (szIntS_c hK hx h0 h1) ?_
 rintro _ w ⟨⟨k, rfl, g1, g2, g3⟩, hK⟩
 refine vl (aI rfl) <| nl <| thn <| sq <| sq <| rg <| vl (mI rfl) <| vl (lt rfl rfl) <| nl <| thn <| ?_
 refine cdP rfl (fun h => ?_) fun h => ?_
 ·refine sq <| rg <| ?_
  refine vl (aI rfl) <| nl <| thn <| rt <| thr <| p1r (a := .int _ _) rfl <| ?_
  exact ⟨⟨_, rfl, by omega, by omega, by omega⟩, hK.drop1⟩
 ·refine sk <| thn <| sq <| rg <| ?_
  refine vl (mI rfl) <| vl (aI rfl) <| nl <| thn <| rt <| p1r (a := .int _ _) rfl <| ?_
  exact ⟨⟨_, rfl, by omega, by omega, by omega⟩, hK.drop1⟩
theorem szNodeS_c (hK : K e w G L) (hv : RngS G v rs) {n : Int} (h0 : 0 ≤ n) (h1 : n ≤ 1048576) :
  Ret prog 11 #[v, .int .i64 n] w (fun r w' => (∃ k, r = .int .i64 k ∧ -1 ≤ k ∧ k ≤ n ∧ (0 ≤ k → rs.length ≤ n ∧ ∀ x ∈ rs, (x.2.2.2.length : Int) ≤ n)) ∧ K e w' G L) := by
 have hs := hv.sl
 have hle := hs.le
 refine enter1 (args := [v, .int .i64 n]) func11 rfl rfl rfl rfl ?_
 refine sq <| rg <| ?_
 refine vl (aI rfl) <| nl <| thn <| sq <| rg <| vl (mI rfl) <| vl mv <| vl (ln underlying22 rfl hs.len) <| vl (sb rfl rfl) <| vl (aI rfl) <| nl <| thn <| sq <| sq <| rg <| vl (mI rfl) <| vl (lt rfl rfl) <| nl <| thn <| ?_
 refine cdP rfl (fun h => ?_) fun h => ?_
 ·refine sq <| rg <| ?_
  refine vl (aI rfl) <| nl <| thn <| rt <| thr <| p1r (a := .int _ _) rfl <| ?_
  exact ⟨⟨_, rfl, by omega, by omega, by omega⟩, hK⟩
 ·refine sk <| thn <| sq <| sq <| rg <| ?_
  refine vl (aI rfl) <| nl <| thn <| bk <| ?_
  refine lp (σ := Nat × Int) (fun s => [(0, v), (1, .int .i64 s.2), (5, .int .i64 (s.1 : Int))]) (fun s w => s.1 ≤ rs.length ∧ 0 ≤ s.2 ∧ s.2 ≤ n - rs.length ∧ (∀ x ∈ rs.take s.1, (x.2.2.2.length : Int) ≤ n) ∧ K e w G L) (fun s => rs.length - s.1) (0, n - rs.length) ⟨rfl, rfl, rfl, trivial⟩ ⟨Nat.zero_le _, by simp only; omega, by simp only; omega, fun _ h => by simp at h, hK⟩ ?_
  rintro ⟨i, m⟩ g w ⟨hi, hm0, hm1, ha, hK⟩
  simp only at hi hm0 hm1 ha hK
  refine sq <| sq <| rg <| ?_
  refine vl (mI rfl) <| vl mv <| vl (ln underlying22 rfl hs.len) <| vl (lt rfl rfl) <| nl <| thn <| ?_
  refine cdP rfl (fun hc => ?_) fun hc => ?_
  ·have hi' : i < rs.length := by simp only at hc; omega
   refine sk <| thn <| sq <| bk <| sq <| rg <| ?_
   refine vl mv <| vl (mI rfl) <| vl (ixn underlying22 Ty.s68 rfl hs.1 rfl om) <| vl (lsF hK Ty.a68 Ty.s68 rfl hs om) <| vl (mI rfl) <| ?_
   refine cl call45 rfl (szNode_c hK (hv.at hi') hm0 om) ?_
   rintro _ w ⟨⟨k, rfl, g1, g2, g3⟩, hK⟩
   refine vl (aI rfl) <| nl <| thn <| sq <| rg <| vl (mI rfl) <| vl (lt rfl rfl) <| nl <| thn <| ?_
   refine cdP rfl (fun h2 => ?_) fun h2 => ?_
   ·refine sq <| rg <| ?_
    refine vl (aI rfl) <| nl <| thn <| rt <| bkr <| thr <| thr <| bkr <| thr <| p1r (a := .int _ _) rfl <| ?_
    exact ⟨⟨_, rfl, by omega, by omega, by omega⟩, hK⟩
   ·refine sk <| bkn <| thn <| rg <| ?_
    refine vl (mI rfl) <| vl (ad rfl rfl) <| vl (aI rfl) <| nl <| thn <| ?_
    exact ⟨(i + 1, k), ⟨rfl, rfl, rfl, trivial⟩, ⟨hi', by simp only; omega, by simp only; omega, fun x hx => by
     rw [List.take_succ_eq_append_getElem hi'] at hx
     rcases List.mem_append.1 hx with hx | hx
     ·exact ha x hx
     ·obtain rfl := List.mem_singleton.1 hx; have := g3 (by omega); omega, hK⟩, by simp only; omega⟩
  ·have hi' : i = rs.length := by simp only at hc; omega
   subst hi'
   rw [List.take_length] at ha
   refine ex <| the <| the <| bkh <| thn <| sq <| rg <| ?_
   refine vl (mI rfl) <| vl (aI rfl) <| nl <| thn <| rt <| p1r (a := .int _ _) rfl <| ?_
   exact ⟨⟨_, rfl, by omega, by omega, fun _ => ⟨by omega, ha⟩⟩, hK⟩
theorem szItemS_c (hK : K e w G L) (hv : ItS G v zs) {n : Int} (h0 : 0 ≤ n) (h1 : n ≤ 1048576) :
  Ret prog 13 #[v, .int .i64 n] w (fun r w' => (∃ k, r = .int .i64 k ∧ -1 ≤ k ∧ k ≤ n ∧ (0 ≤ k → k = n - zs.length)) ∧ K e w' G L) := by
 have hle := hv.le
 refine enter1 (args := [v, .int .i64 n]) func13 rfl rfl rfl rfl ?_
 refine sq <| rg <| ?_
 refine vl (aI rfl) <| nl <| thn <| sq <| rg <| vl (mI rfl) <| vl mv <| vl (ln underlying24 rfl hv.len) <| vl (sb rfl rfl) <| vl (aI rfl) <| nl <| thn <| sq <| sq <| rg <| vl (mI rfl) <| vl (lt rfl rfl) <| nl <| thn <| ?_
 refine cdP rfl (fun h => ?_) fun h => ?_
 ·refine sq <| rg <| ?_
  refine vl (aI rfl) <| nl <| thn <| rt <| thr <| p1r (a := .int _ _) rfl <| ?_
  exact ⟨⟨_, rfl, by omega, by omega, by omega⟩, hK⟩
 ·refine sk <| thn <| sq <| rg <| ?_
  refine vl (mI rfl) <| vl (aI rfl) <| nl <| thn <| rt <| p1r (a := .int _ _) rfl <| ?_
  exact ⟨⟨_, rfl, by omega, by omega, by omega⟩, hK⟩
theorem szWorld_c (hK : K e w G L) (hW : WdS G lc W wd rs) {n : Int} (h0 : 0 ≤ n) (h1 : n ≤ 1048576) :
  Ret prog 4 #[.agg (wc W).toArray, .int .i64 n] w (fun r w' => (∃ k, r = .int .i64 k ∧ (0 ≤ k → WdL wd)) ∧ K e w' G L) := by
 refine enter1 (args := [.agg (wc W).toArray, .int .i64 n]) func4 rfl rfl rfl rfl ?_
 refine sq <| rg <| ?_
 refine bx hK rfl rfl ?_
 intro b2 w hK
 refine vl (aI rfl) <| nl <| thn <| sq <| rg <| vl (fa underlying29 rfl Ty.z22 rfl) <| vl (ldO hK Ty.o22 0 rfl rfl rfl) <| vl (mI rfl) <| ?_
 refine cl call11 rfl (szNodeS_c hK hW.ring h0 h1) ?_
 rintro _ w ⟨⟨k, rfl, a1, a2, a3⟩, hK⟩
 refine vl (aI rfl) <| nl <| thn <| sq <| sq <| rg <| vl (mI rfl) <| vl (lt rfl rfl) <| nl <| thn <| ?_
 refine cdP rfl (fun h => ?_) fun h => ?_
 ·refine sq <| rg <| ?_
  refine vl (aI rfl) <| nl <| thn <| rt <| thr <| p1r (a := .int _ _) rfl <| ?_
  exact ⟨⟨_, rfl, by omega⟩, hK.drop1⟩
 ·refine sk <| thn <| sq <| rg <| ?_
  refine vl (fa underlying29 rfl Ty.z23 rfl) <| vl (ldO hK Ty.o23 0 rfl rfl rfl) <| vl (mI rfl) <| ?_
  refine cl call12 rfl (szLeaseS_c hK hW.leases om om) ?_
  rintro _ w ⟨⟨k2, rfl, b1, b2, b3⟩, hK⟩
  refine vl (aI rfl) <| nl <| thn <| sq <| sq <| rg <| vl (mI rfl) <| vl (lt rfl rfl) <| nl <| thn <| ?_
  refine cdP rfl (fun h2 => ?_) fun h2 => ?_
  ·refine sq <| rg <| ?_
   refine vl (aI rfl) <| nl <| thn <| rt <| thr <| p1r (a := .int _ _) rfl <| ?_
   exact ⟨⟨_, rfl, by omega⟩, hK.drop1⟩
  ·refine sk <| thn <| sq <| rg <| ?_
   refine vl (fa underlying29 rfl Ty.z24 rfl) <| vl (ldO hK Ty.o24 0 rfl rfl rfl) <| vl (mI rfl) <| ?_
   refine cl call13 rfl (szItemS_c hK hW.items om om) ?_
   rintro _ w ⟨⟨k3, rfl, c1, c2, c3⟩, hK⟩
   refine vl (aI rfl) <| nl <| thn <| sq <| sq <| rg <| vl (mI rfl) <| vl (lt rfl rfl) <| nl <| thn <| ?_
   refine cdP rfl (fun h3 => ?_) fun h3 => ?_
   ·refine sq <| rg <| ?_
    refine vl (aI rfl) <| nl <| thn <| rt <| thr <| p1r (a := .int _ _) rfl <| ?_
    exact ⟨⟨_, rfl, by omega⟩, hK.drop1⟩
   ·refine sk <| thn <| sq <| rg <| ?_
    refine vl (fa underlying29 rfl Ty.z27 rfl) <| vl (lsP (u := [.int .i64 W.next, W.t]) hK Ty.a27 Ty.s27 0 rfl rfl rfl rfl) <| vl (mI rfl) <| ?_
    refine cl call14 rfl (szScan_c hK hW.told om om) ?_
    rintro _ w ⟨⟨k4, rfl, d1, d2, d3⟩, hK⟩
    refine vl (aI rfl) <| nl <| thn <| sq <| sq <| rg <| vl (mI rfl) <| vl (lt rfl rfl) <| nl <| thn <| ?_
    refine cdP rfl (fun h4 => ?_) fun h4 => ?_
    ·refine sq <| rg <| ?_
     refine vl (aI rfl) <| nl <| thn <| rt <| thr <| p1r (a := .int _ _) rfl <| ?_
     exact ⟨⟨_, rfl, by omega⟩, hK.drop1⟩
    ·refine sk <| thn <| sq <| rg <| ?_
     refine vl (fa underlying29 rfl Ty.z25 rfl) <| vl (ldO hK Ty.o25 0 rfl rfl rfl) <| vl (mI rfl) <| ?_
     refine cl call15 rfl (szIntS_c hK hW.since om om) ?_
     rintro _ w ⟨⟨k5, rfl, e1, e2, e3⟩, hK⟩
     refine vl (aI rfl) <| nl <| thn <| sq <| sq <| rg <| vl (mI rfl) <| vl (lt rfl rfl) <| nl <| thn <| ?_
     refine cdP rfl (fun h5 => ?_) fun h5 => ?_
     ·refine sq <| rg <| ?_
      refine vl (aI rfl) <| nl <| thn <| rt <| thr <| p1r (a := .int _ _) rfl <| ?_
      exact ⟨⟨_, rfl, by omega⟩, hK.drop1⟩
     ·refine sk <| thn <| sq <| rg <| ?_
      refine vl (mI rfl) <| vl (aI rfl) <| nl <| thn <| rt <| p1r (a := .int _ _) rfl <| ?_
      have ha := a3 (by omega)
      have hb := b3 (by omega)
      have hc := c3 (by omega)
      have hd := d3 (by omega)
      have he := e3 (by omega)
      refine ⟨⟨_, rfl, fun _ => ⟨?_, fun x hx => ?_, by omega, by omega, by omega, by omega⟩⟩, hK.drop1⟩
      ·rw [← hW.rg, rg_len]; omega
      ·rw [← hW.rg] at hx
       obtain ⟨y, hy, rfl⟩ := List.mem_map.1 hx
       have := ha.2 y hy
       show y.2.2.2.length ≤ 1048576
       omega
theorem eqNode_c (hK : K e w G L) {x y : Rn} (hx : IntS G x.2.2.1 x.2.2.2) (hy : IntS G y.2.2.1 y.2.2.2) : Ret prog 78 #[.agg (rc x).toArray, .agg (rc y).toArray] w (fun r w' => r = .bool (dec (nd x = nd y)) ∧ K e w' G L) := by
 refine enter1 (args := [.agg (rc x).toArray, .agg (rc y).toArray]) func78 rfl rfl rfl rfl ?_
 refine sq <| rg <| ?_
 refine bx hK rfl rfl ?_
 intro b2 w hK
 refine bx hK rfl rfl ?_
 intro b3 w hK
 refine vl (aB rfl) <| nl <| thn <| sq <| sq <| rg <| vl (fa underlying79 rfl Ty.z3 rfl) <| vl (ldO hK Ty.o3 1 rfl rfl rfl) <| vl (fa underlying79 rfl Ty.z3 rfl) <| vl (ldO hK Ty.o3 0 rfl rfl rfl) <| vl (ne rfl rfl) <| nl <| thn <| ?_
 refine cdP rfl (fun h1 => ?_) fun h1 => ?_
 ·refine sq <| rg <| ?_
  refine vl (aB rfl) <| nl <| thn <| rt <| thr <| p1r (a := .bool _) rfl <| ?_
  exact ⟨by rw [dec_f fun h => h1 (congrArg (fun n : Nd => n.1) h)], hK.drop1.drop1⟩
 ·refine sk <| thn <| sq <| sq <| rg <| ?_
  refine vl (fa underlying79 rfl Ty.z3 rfl) <| vl (ldO hK Ty.o3 1 rfl rfl rfl) <| vl (fa underlying79 rfl Ty.z3 rfl) <| vl (ldO hK Ty.o3 0 rfl rfl rfl) <| vl (ne rfl rfl) <| nl <| thn <| ?_
  refine cdP rfl (fun h2 => ?_) fun h2 => ?_
  ·refine sq <| rg <| ?_
   refine vl (aB rfl) <| nl <| thn <| rt <| thr <| p1r (a := .bool _) rfl <| ?_
   exact ⟨by rw [dec_f fun h => h2 (congrArg (fun n : Nd => n.2.1) h)], hK.drop1.drop1⟩
  ·refine sk <| thn <| sq <| sq <| rg <| ?_
   refine vl (fa underlying79 rfl Ty.z25 rfl) <| vl (ldO hK Ty.o25 1 rfl rfl rfl) <| vl (fa underlying79 rfl Ty.z25 rfl) <| vl (ldO hK Ty.o25 0 rfl rfl rfl) <| ?_
   refine cl call34 rfl (eqIntS_c hK hx hy) ?_
   rintro _ w ⟨rfl, hK⟩
   refine vl (nt rfl) <| nl <| thn <| ?_
   refine cdP rfl (fun h3 => ?_) fun h3 => ?_
   ·refine sq <| rg <| ?_
    refine vl (aB rfl) <| nl <| thn <| rt <| thr <| p1r (a := .bool _) rfl <| ?_
    exact ⟨by rw [dec_f fun h => h3 (congrArg (fun n : Nd => n.2.2) h)], hK.drop1.drop1⟩
   ·refine sk <| thn <| sq <| rg <| ?_
    refine vl (aB rfl) <| nl <| thn <| rt <| p1r (a := .bool _) rfl <| ?_
    exact ⟨by rw [dec_t (nd_eq (Decidable.not_not.1 h1) (Decidable.not_not.1 h2) (Decidable.not_not.1 h3))], hK.drop1.drop1⟩
theorem eqItem_c (hK : K e w G L) {x y : It} : Ret prog 80 #[.agg (ic x).toArray, .agg (ic y).toArray] w (fun r w' => r = .bool (dec (x = y)) ∧ K e w' G L) := by
 refine enter1 (args := [.agg (ic x).toArray, .agg (ic y).toArray]) func80 rfl rfl rfl rfl ?_
 refine sq <| rg <| ?_
 refine bx hK rfl rfl ?_
 intro b2 w hK
 refine bx hK rfl rfl ?_
 intro b3 w hK
 refine vl (aB rfl) <| nl <| thn <| sq <| sq <| rg <| vl (fa underlying84 rfl Ty.z3 rfl) <| vl (ldO hK Ty.o3 1 rfl rfl rfl) <| vl (fa underlying84 rfl Ty.z3 rfl) <| vl (ldO hK Ty.o3 0 rfl rfl rfl) <| vl (ne rfl rfl) <| nl <| thn <| ?_
 refine cdP rfl (fun h1 => ?_) fun h1 => ?_
 ·refine sq <| rg <| ?_
  refine vl (aB rfl) <| nl <| thn <| rt <| thr <| p1r (a := .bool _) rfl <| ?_
  exact ⟨by rw [dec_f]; rintro rfl; exact h1 rfl, hK.drop1.drop1⟩
 ·refine sk <| thn <| sq <| sq <| rg <| ?_
  refine vl (fa underlying84 rfl Ty.z3 rfl) <| vl (ldO hK Ty.o3 1 rfl rfl rfl) <| vl (fa underlying84 rfl Ty.z3 rfl) <| vl (ldO hK Ty.o3 0 rfl rfl rfl) <| vl (ne rfl rfl) <| nl <| thn <| ?_
  refine cdP rfl (fun h2 => ?_) fun h2 => ?_
  ·refine sq <| rg <| ?_
   refine vl (aB rfl) <| nl <| thn <| rt <| thr <| p1r (a := .bool _) rfl <| ?_
   exact ⟨by rw [dec_f]; rintro rfl; exact h2 rfl, hK.drop1.drop1⟩
  ·refine sk <| thn <| sq <| rg <| ?_
   refine vl (aB rfl) <| nl <| thn <| rt <| p1r (a := .bool _) rfl <| ?_
   exact ⟨by rw [dec_t (Prod.ext (Decidable.not_not.1 h1) (Decidable.not_not.1 h2))], hK.drop1.drop1⟩
theorem eqNodeS_c (hK : K e w G L) (hv : RngS G v rs) (hu : RngS G u qs) : Ret prog 30 #[v, u] w (fun r w' => r = .bool (dec (rgl rs = rgl qs)) ∧ K e w' G L) := by
 have hs := hv.sl
 have hs2 := hu.sl
 have hle := hs.le
 refine enter1 (args := [v, u]) func30 rfl rfl rfl rfl ?_
 refine sq <| rg <| ?_
 refine vl (aB rfl) <| nl <| thn <| sq <| sq <| rg <| vl mv <| vl (ln underlying31 rfl hs.len) <| vl mv <| vl (ln underlying31 rfl hs2.len) <| vl (ne rfl rfl) <| nl <| thn <| ?_
 refine cdP rfl (fun h0 => ?_) fun h0 => ?_
 ·refine sq <| rg <| ?_
  refine vl (aB rfl) <| nl <| thn <| rt <| thr <| p1r (a := .bool _) rfl <| ?_
  exact ⟨by rw [dec_f fun h => h0 (by have := congrArg List.length h; rw [rg_len, rg_len] at this; omega)], hK⟩
 ·have hln : rs.length = qs.length := by omega
  refine sk <| thn <| sq <| sq <| rg <| ?_
  refine vl (aI rfl) <| nl <| thn <| bk <| ?_
  refine lp (σ := Nat) (fun i => [(0, v), (1, u), (5, .int .i64 (i : Int))]) (fun i w => i ≤ rs.length ∧ rgl (rs.take i) = rgl (qs.take i) ∧ K e w G L) (fun i => rs.length - i) 0 ⟨rfl, rfl, rfl, trivial⟩ ⟨Nat.zero_le _, rfl, hK⟩ ?_
  rintro i g w ⟨hi, ha, hK⟩
  refine sq <| sq <| rg <| ?_
  refine vl (mI rfl) <| vl mv <| vl (ln underlying31 rfl hs.len) <| vl (lt rfl rfl) <| nl <| thn <| ?_
  refine cdP rfl (fun hc => ?_) fun hc => ?_
  ·have hi' : i < rs.length := by omega
   have hi2 : i < qs.length := by omega
   refine sk <| thn <| sq <| bk <| sq <| ?_
   refine rgq (fun w => K _ w _ _) Ty.mixed kr (hK.drawn _) ?_
   refine qv (fun w hK => mv) <| qv (fun w hK => (mI rfl)) <| qv (fun w hK => (ixn underlying31 Ty.s79 rfl hs.1 rfl om)) <| qv (fun w hK => (lsF hK Ty.a79 Ty.s79 rfl hs om)) <| qv (fun w hK => mv) <| qv (fun w hK => (mI rfl)) <| qv (fun w hK => (ixn underlying31 Ty.s79 rfl hs2.1 rfl om)) <| qv (fun w hK => (lsF hK Ty.a79 Ty.s79 rfl hs2 om)) <| ?_
   refine qcl call78 rfl (fun w hK => eqNode_c hK (hv.at hi') (hu.at hi2)) ?_
   refine qv (fun w hK => (ntB rfl)) <| qn <| ?_
   intro w hK
   refine thn <| ?_
   refine cdB rfl (fun h1 => ?_) fun h1 => ?_
   ·have h1' := not_dec (Eq.mp (Bool.not_eq_true' _) h1)
    refine sq <| rg <| ?_
    refine vl (aB rfl) <| nl <| thn <| rt <| bkr <| thr <| thr <| bkr <| thr <| p1r (a := .bool _) rfl <| ?_
    exact ⟨by rw [dec_f fun h => h1' (by rw [← rg_get hi', ← rg_get hi2]; simp only [h])], hK⟩
   ·have h1' := of_dec (Eq.mp (Bool.not_eq_false' _) h1)
    refine sk <| bkn <| thn <| rg <| ?_
    refine vl (mI rfl) <| vl (ad rfl rfl) <| vl (aI rfl) <| nl <| thn <| ?_
    exact ⟨i + 1, ⟨rfl, rfl, rfl, trivial⟩, ⟨hi', by rw [rgl_take_succ hi', rgl_take_succ hi2, ha, h1'], hK⟩, by omega⟩
  ·have hi' : i = rs.length := by omega
   subst hi'
   rw [List.take_length, hln, List.take_length] at ha
   refine ex <| the <| the <| bkh <| thn <| sq <| rg <| ?_
   refine vl (aB rfl) <| nl <| thn <| rt <| p1r (a := .bool _) rfl <| ?_
   exact ⟨by rw [dec_t ha], hK⟩
theorem eqItemS_c (hK : K e w G L) (hv : ItS G v zs) (hu : ItS G u ts) : Ret prog 32 #[v, u] w (fun r w' => r = .bool (dec (zs = ts)) ∧ K e w' G L) := by
 have hle := hv.le
 refine enter1 (args := [v, u]) func32 rfl rfl rfl rfl ?_
 refine sq <| rg <| ?_
 refine vl (aB rfl) <| nl <| thn <| sq <| sq <| rg <| vl mv <| vl (ln underlying33 rfl hv.len) <| vl mv <| vl (ln underlying33 rfl hu.len) <| vl (ne rfl rfl) <| nl <| thn <| ?_
 refine cdP rfl (fun h0 => ?_) fun h0 => ?_
 ·refine sq <| rg <| ?_
  refine vl (aB rfl) <| nl <| thn <| rt <| thr <| p1r (a := .bool _) rfl <| ?_
  exact ⟨by rw [dec_f fun h => h0 (by have := congrArg List.length h; omega)], hK⟩
 ·have hln : zs.length = ts.length := by omega
  refine sk <| thn <| sq <| sq <| rg <| ?_
  refine vl (aI rfl) <| nl <| thn <| bk <| ?_
  refine lp (σ := Nat) (fun i => [(0, v), (1, u), (5, .int .i64 (i : Int))]) (fun i w => i ≤ zs.length ∧ zs.take i = ts.take i ∧ K e w G L) (fun i => zs.length - i) 0 ⟨rfl, rfl, rfl, trivial⟩ ⟨Nat.zero_le _, rfl, hK⟩ ?_
  rintro i g w ⟨hi, ha, hK⟩
  refine sq <| sq <| rg <| ?_
  refine vl (mI rfl) <| vl mv <| vl (ln underlying33 rfl hv.len) <| vl (lt rfl rfl) <| nl <| thn <| ?_
  refine cdP rfl (fun hc => ?_) fun hc => ?_
  ·have hi' : i < zs.length := by omega
   have hi2 : i < ts.length := by omega
   refine sk <| thn <| sq <| bk <| sq <| ?_
   refine rgq (fun w => K _ w _ _) Ty.mixed kr (hK.drawn _) ?_
   refine qv (fun w hK => mv) <| qv (fun w hK => (mI rfl)) <| qv (fun w hK => (ixn underlying33 Ty.s84 rfl hv.1 rfl om)) <| qv (fun w hK => (lsF hK Ty.a84 Ty.s84 rfl hv om)) <| qv (fun w hK => mv) <| qv (fun w hK => (mI rfl)) <| qv (fun w hK => (ixn underlying33 Ty.s84 rfl hu.1 rfl om)) <| qv (fun w hK => (lsF hK Ty.a84 Ty.s84 rfl hu om)) <| ?_
   refine qcl call80 rfl (fun w hK => eqItem_c hK) ?_
   refine qv (fun w hK => (ntB rfl)) <| qn <| ?_
   intro w hK
   refine thn <| ?_
   refine cdB rfl (fun h1 => ?_) fun h1 => ?_
   ·have h1' := not_dec (Eq.mp (Bool.not_eq_true' _) h1)
    refine sq <| rg <| ?_
    refine vl (aB rfl) <| nl <| thn <| rt <| bkr <| thr <| thr <| bkr <| thr <| p1r (a := .bool _) rfl <| ?_
    exact ⟨by rw [dec_f fun h => h1' (by simp only [h])], hK⟩
   ·have h1' := of_dec (Eq.mp (Bool.not_eq_false' _) h1)
    refine sk <| bkn <| thn <| rg <| ?_
    refine vl (mI rfl) <| vl (ad rfl rfl) <| vl (aI rfl) <| nl <| thn <| ?_
    exact ⟨i + 1, ⟨rfl, rfl, rfl, trivial⟩, ⟨hi', by rw [List.take_succ_eq_append_getElem hi', List.take_succ_eq_append_getElem hi2, ha, h1'], hK⟩, by omega⟩
  ·have hi' : i = zs.length := by omega
   subst hi'
   rw [List.take_length, hln, List.take_length] at ha
   refine ex <| the <| the <| bkh <| thn <| sq <| rg <| ?_
   refine vl (aB rfl) <| nl <| thn <| rt <| p1r (a := .bool _) rfl <| ?_
   exact ⟨by rw [dec_t ha], hK⟩
theorem eqWorld_c (hK : K e w G L) (hW : WdS G lc W wd rs) (hW' : WdS G lc W' wd' qs) : Ret prog 8 #[.agg (wc W).toArray, .agg (wc W').toArray] w (fun r w' => r = .bool (dec (wd = wd')) ∧ K e w' G L) := by
 have r1 := hW.ring
 have r2 := hW'.ring
 have l1 := hW.leases
 have l2 := hW'.leases
 have i1 := hW.items
 have i2 := hW'.items
 have t1 := hW.told
 have t2 := hW'.told
 have s1 := hW.since
 have s2 := hW'.since
 refine enter1 (args := [.agg (wc W).toArray, .agg (wc W').toArray]) func8 rfl rfl rfl rfl ?_
 refine sq <| rg <| ?_
 refine bx hK rfl rfl ?_
 intro b2 w hK
 refine bx hK rfl rfl ?_
 intro b3 w hK
 refine vl (aB rfl) <| nl <| thn <| sq <| sq <| rg <| vl (fa underlying36 rfl Ty.z3 rfl) <| vl (ldO hK Ty.o3 1 rfl rfl rfl) <| vl (fa underlying36 rfl Ty.z3 rfl) <| vl (ldO hK Ty.o3 0 rfl rfl rfl) <| vl (ne rfl rfl) <| nl <| thn <| ?_
 refine cdP rfl (fun h1 => ?_) fun h1 => ?_
 ·refine sq <| rg <| ?_
  refine vl (aB rfl) <| nl <| thn <| rt <| thr <| p1r (a := .bool _) rfl <| ?_
  exact ⟨by rw [dec_f fun h => h1 (by rw [hW.now, hW'.now, h])], hK.drop1.drop1⟩
 ·have e1 : wd.now = wd'.now := by rw [← hW.now, ← hW'.now]; exact Decidable.not_not.1 h1
  refine sk <| thn <| sq <| sq <| rg <| ?_
  refine vl (fa underlying36 rfl Ty.z31 rfl) <| vl (ldO hK Ty.o31 1 rfl rfl rfl) <| vl (fa underlying36 rfl Ty.z31 rfl) <| vl (ldO hK Ty.o31 0 rfl rfl rfl) <| ?_
  refine cl call30 rfl (eqNodeS_c hK r1 r2) ?_
  rintro _ w ⟨rfl, hK⟩
  refine vl (ntB rfl) <| nl <| thn <| ?_
  refine cdB rfl (fun h2 => ?_) fun h2 => ?_
  ·have h2' := not_dec (Eq.mp (Bool.not_eq_true' _) h2)
   refine sq <| rg <| ?_
   refine vl (aB rfl) <| nl <| thn <| rt <| thr <| p1r (a := .bool _) rfl <| ?_
   exact ⟨by rw [dec_f fun h => h2' (by rw [hW.rg, hW'.rg, h])], hK.drop1.drop1⟩
  ·have e2 : wd.ring = wd'.ring := by rw [← hW.rg, ← hW'.rg]; exact of_dec (Eq.mp (Bool.not_eq_false' _) h2)
   refine sk <| thn <| sq <| sq <| rg <| ?_
   refine vl (fa underlying36 rfl Ty.z32 rfl) <| vl (ldO hK Ty.o32 1 rfl rfl rfl) <| vl (fa underlying36 rfl Ty.z32 rfl) <| vl (ldO hK Ty.o32 0 rfl rfl rfl) <| ?_
   refine cl call31 rfl (eqLeaseS_c hK l1 l2) ?_
   rintro _ w ⟨rfl, hK⟩
   refine vl (nt rfl) <| nl <| thn <| ?_
   refine cdP rfl (fun h3 => ?_) fun h3 => ?_
   ·refine sq <| rg <| ?_
    refine vl (aB rfl) <| nl <| thn <| rt <| thr <| p1r (a := .bool _) rfl <| ?_
    exact ⟨by rw [dec_f fun h => h3 (congrArg Wd.leases h)], hK.drop1.drop1⟩
   ·have e3 := Decidable.not_not.1 h3
    refine sk <| thn <| sq <| sq <| rg <| ?_
    refine vl (fa underlying36 rfl Ty.z33 rfl) <| vl (ldO hK Ty.o33 1 rfl rfl rfl) <| vl (fa underlying36 rfl Ty.z33 rfl) <| vl (ldO hK Ty.o33 0 rfl rfl rfl) <| ?_
    refine cl call32 rfl (eqItemS_c hK i1 i2) ?_
    rintro _ w ⟨rfl, hK⟩
    refine vl (ntB rfl) <| nl <| thn <| ?_
    refine cdB rfl (fun h4 => ?_) fun h4 => ?_
    ·have h4' := not_dec (Eq.mp (Bool.not_eq_true' _) h4)
     refine sq <| rg <| ?_
     refine vl (aB rfl) <| nl <| thn <| rt <| thr <| p1r (a := .bool _) rfl <| ?_
     exact ⟨by rw [dec_f fun h => h4' (congrArg Wd.items h)], hK.drop1.drop1⟩
    ·have e4 := of_dec (Eq.mp (Bool.not_eq_false' _) h4)
     refine sk <| thn <| sq <| sq <| rg <| ?_
     refine vl (fa underlying36 rfl Ty.z34 rfl) <| vl (lsP (u := [.int .i64 W.next, W.t]) hK Ty.a34 Ty.s34 1 rfl rfl rfl rfl) <| vl (fa underlying36 rfl Ty.z34 rfl) <| vl (lsP (u := [.int .i64 W'.next, W'.t]) hK Ty.a34 Ty.s34 0 rfl rfl rfl rfl) <| ?_
     refine cl call33 rfl (eqScan_c hK t1 t2) ?_
     rintro _ w ⟨rfl, hK⟩
     refine vl (nt rfl) <| nl <| thn <| ?_
     refine cdP rfl (fun h5 => ?_) fun h5 => ?_
     ·refine sq <| rg <| ?_
      refine vl (aB rfl) <| nl <| thn <| rt <| thr <| p1r (a := .bool _) rfl <| ?_
      exact ⟨by rw [dec_f fun h => h5 (by rw [hW.next, hW'.next, h]; exact ⟨rfl, rfl⟩)], hK.drop1.drop1⟩
     ·have h5' := Decidable.not_not.1 h5
      have e5 : wd.scan = wd'.scan := Prod.ext (by rw [← hW.next, ← hW'.next]; exact h5'.1) h5'.2
      refine sk <| thn <| sq <| sq <| rg <| ?_
      refine vl (fa underlying36 rfl Ty.z25 rfl) <| vl (ldO hK Ty.o25 1 rfl rfl rfl) <| vl (fa underlying36 rfl Ty.z25 rfl) <| vl (ldO hK Ty.o25 0 rfl rfl rfl) <| ?_
      refine cl call34 rfl (eqIntS_c hK s1 s2) ?_
      rintro _ w ⟨rfl, hK⟩
      refine vl (nt rfl) <| nl <| thn <| ?_
      refine cdP rfl (fun h6 => ?_) fun h6 => ?_
      ·refine sq <| rg <| ?_
       refine vl (aB rfl) <| nl <| thn <| rt <| thr <| p1r (a := .bool _) rfl <| ?_
       exact ⟨by rw [dec_f fun h => h6 (congrArg Wd.since h)], hK.drop1.drop1⟩
      ·refine sk <| thn <| sq <| rg <| ?_
       refine vl (aB rfl) <| nl <| thn <| rt <| p1r (a := .bool _) rfl <| ?_
       exact ⟨by rw [dec_t (wd_eq e1 e2 e3 e4 e5 (Decidable.not_not.1 h6))], hK.drop1.drop1⟩
end
end Go.Proofs.YtmgggljicpmndaaGreat