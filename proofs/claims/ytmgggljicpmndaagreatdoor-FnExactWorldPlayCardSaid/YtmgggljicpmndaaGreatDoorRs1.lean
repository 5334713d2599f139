/- Contracts of the specification's steps of a ring. Conditions: those that each row states. -/
import Derived.Test.YtmgggljicpmndaaGreatDoorRi
namespace Go.Proofs.YtmgggljicpmndaaGreatDoor
open Go Go.Ro Tryz
section
variable {e w : World} {G : View} {L : Own} {v u : Value} {xs ys ks : List Int} {ls : List Ls} {rs : List Rn} {a b k : Int}
theorem l3Copy_c (hK : K e w G L) (hv : RngS G v rs) (hl : rs.length ≤ 100000) (hal : ∀ x ∈ rs, x.2.2.2.length ≤ 1000) : Ret prog 61 #[v] w (fun r w' => ∃ os A, rgl (toRs os) = rgl rs ∧ OSS 3 (uso os) ∧
  OS 3 98 r os.length ((toRs os).flatMap rc) A ∧ K e w' G (A ++ (flat (uso os) ++ L))) := by
 have hs := hv.sl
 refine enter1 (args := [v]) func61 rfl rfl rfl rfl ?_
 refine sq <| rg <| ?_
 refine vl asg <| nl <| thn <| sq <| rg <| ?_
 refine bs0 hK underlying25 Ty.i98 ?_
 intro b6 w hK
 refine vl asg <| nl <| thn <| sq <| sq <| rg <| vl (aI rfl) <| nl <| thn <| bk <| ?_
 refine lp (σ := Nat × Value × List Ron × Own) (fun s => [(0, v), (3, s.2.1), (4, .int .i64 (s.1 : Int))]) (fun s w => s.1 ≤ rs.length ∧ s.2.2.1.length = s.1 ∧ rgl (toRs s.2.2.1) = rgl (rs.take s.1) ∧ OSS 3 (uso s.2.2.1) ∧ OS 3 98 s.2.1 s.2.2.1.length ((toRs s.2.2.1).flatMap rc) s.2.2.2 ∧ K e w G (s.2.2.2 ++ (flat (uso s.2.2.1) ++ L))) (fun s => rs.length - s.1) (0, .slice (some ⟨b6, 0, none⟩) 0 0, [], [(b6, row [] 98)]) ⟨rfl, rfl, rfl, trivial⟩ ⟨Nat.zero_le _, rfl, rfl, OSS.nil, OS.none, hK⟩ ?_
 rintro ⟨i, u, os, A⟩ g w ⟨hi, hil, hrg, hus, ho, hK⟩
 simp only at hi hil hrg hus ho hK
 refine sq <| sq <| rg <| ?_
 refine vl (mI rfl) <| vl mv <| vl (ln underlying25 rfl hs.len) <| vl (lt rfl rfl) <| nl <| thn <| ?_
 refine cdP rfl (fun hc => ?_) fun hc => ?_
 ·have hi' : i < rs.length := by simp only at hc; omega
  have hx := hv.at hi'
  have hxl := hal _ (List.getElem_mem hi')
  refine sk <| thn <| sq <| bk <| sq <| rg <| ?_
  refine vl mv <| vl (mI rfl) <| vl (ixn underlying25 Ty.s98 rfl hs.1 rfl om) <| vl (lsF hK Ty.a98 Ty.s98 rfl hs om) <| ?_
  refine al hK Ty.i98 rfl ?_
  intro b5 w hK
  refine soS hK Ty.i98 0 rfl rfl rfl rfl (allc rfl (allc rfl (allc hx.1.one rfl))) rfl ?_
  intro w hK
  refine nl <| thn <| sq <| rg <| ?_
  refine bs0 hK underlying22 Ty.i3 ?_
  intro b17 w hK
  refine vl (fa underlying98 rfl Ty.z22 rfl) <| vl (ldO hK Ty.o22 1 rfl rfl rfl) <| ?_
  refine apI (xs := []) (ys := rs[i].2.2.2) (A := [(b17, _)]) hK underlying22 Ty.i3 rfl rfl OS.none rfl hx (by simp; omega) fun v' A' w ho2 hK => ?_
  replace hK := K.mid (A := A') (B := [_]) hK
  simp only [List.nil_append] at ho2
  refine vl (fa underlying98 rfl Ty.z22 rfl) <| ?_
  refine so hK Ty.i22 rfl 0 rfl rfl rfl ho2.one rfl ?_
  intro w hK
  refine nl <| thn <| rg <| vl mv <| vl (lsO hK Ty.a98 Ty.s98 0 rfl rfl rfl) <| ?_
  refine bsS1 hK underlying25 Ty.i98 rfl rfl rfl rfl rfl rfl ?_
  intro b24 w hK
  replace hK : K e w G ((b24, row (rc (rs[i].1, rs[i].2.1, v', rs[i].2.2.2)) 98) :: (b5, row (rc (rs[i].1, rs[i].2.1, v', rs[i].2.2.2)) 98) :: (A' ++ (A ++ (flat (uso os) ++ L)))) := hK
  replace hK : K _ _ _ ((b24, row (rc (rs[i].1, rs[i].2.1, v', rs[i].2.2.2)) 98) :: (A ++ ((b5, row (rc (rs[i].1, rs[i].2.1, v', rs[i].2.2.2)) 98) :: (A' ++ (flat (uso os) ++ L))))) := hK.reo
  refine apE1 (c := rc) (k := (rs[i].1, rs[i].2.1, v', rs[i].2.2.2)) rc_len (allc rfl (allc rfl (allc ho2.one rfl))) hK underlying25 Ty.i98 rfl rfl rfl (by rw [toRs_len]; exact ho) rfl (by rw [toRs_len]; omega) fun v2 A2 w ho3 hK => ?_
  refine vl asg <| nl <| bkn <| thn <| rg <| vl (mI rfl) <| vl (ad rfl rfl) <| vl (aI rfl) <| nl <| thn <| ?_
  refine ⟨(i + 1, v2, os ++ [(rs[i].1, rs[i].2.1, v', rs[i].2.2.2, A')], A2), ⟨rfl, rfl, rfl, trivial⟩, ⟨hi', by simp only [List.length_append, List.length_singleton]; omega, ?_, ?_, ?_, ?_⟩, by simp only; omega⟩
  ·simp only; rw [toRs_snoc, rgl_snoc, hrg, rgl_take_succ hi']; rfl
  ·simp only; rw [uso_snoc]; exact hus.snoc ho2
  ·simp only; rw [toRs_snoc, ← toRs_len, toRs_snoc]; exact ho3
  ·have hfl : flat (uso (os ++ [(rs[i].1, rs[i].2.1, v', rs[i].2.2.2, A')])) = flat (uso os) ++ A' := by rw [uso_snoc]; exact flat_snoc ..
   simp only; rw [hfl]
   exact (K.dropX hK).reo
 ·have hi' : i = rs.length := by simp only at hc; omega
  subst hi'
  rw [List.take_length] at hrg
  refine ex <| the <| the <| bkh <| thn <| sq <| rg <| ?_
  refine vl mv <| vl asg <| nl <| thn <| rt <| p1r (a := _) rfl <| ?_
  exact ⟨os, A, hrg, hus, ho, hK⟩
theorem hal_of (h : RgOk (rgl rs)) : ∀ x ∈ rs, x.2.2.2.length ≤ 1000 := fun x hx => by
 have := (h.2.1 _ (List.mem_map.2 ⟨x, hx, rfl⟩)).2.2.1
 simp only [nd] at this; omega
theorem len_of (h : RgOk (rgl rs)) : rs.length ≤ 10 := (rgOk_iff.1 h).1
theorem l3Copy_o (hK : K e w G L) (hv : RngS G v rs) (hok : RgOk (rgl rs)) : Ret prog 61 #[v] w (fun r w' => ∃ G' rs' A, VLe G G' ∧ rgl rs' = rgl rs ∧ (∀ x ∈ rs', IntS G' x.2.2.1 x.2.2.2) ∧
  OS 3 98 r rs'.length (rs'.flatMap rc) A ∧ K e w' G' (A ++ L)) :=
 (l3Copy_c hK hv (by have := len_of hok; omega) (hal_of hok)).mono fun _ _ ⟨os, A, h1, h2, h3, h4⟩ =>
  let ⟨G', g1, g2, g3⟩ := K.pubIn h2 h4; ⟨G', toRs os, A, g1, h1, g2, by rw [toRs_len]; exact h3, g3⟩
theorem l3Copy_v (hK : K e w G L) (hv : RngS G v rs) (hok : RgOk (rgl rs)) : Ret prog 61 #[v] w (fun r w' => ∃ G' rs', VLe G G' ∧ rgl rs' = rgl rs ∧ RngS G' r rs' ∧ K e w' G' L) :=
 (l3Copy_o hK hv hok).mono fun _ _ ⟨_, rs', _, h1, h2, h3, h4, h5⟩ =>
  let ⟨G', g1, g2, g3⟩ := K.pubR h3 h4 h5; ⟨G', rs', h1.trans g1, h2, g2, g3⟩
theorem l4Set_c (hK : K e w G L) (hv : RngS G v rs) (hok : RgOk (rgl rs)) {i : Nat} (hi : i < rs.length) {x : Rn} (hx : IntS G x.2.2.1 x.2.2.2) (hxl : x.2.2.2.length ≤ 1000) :
  Ret prog 182 #[v, .int .i64 (i : Int), .agg (rc x).toArray] w (fun r w' => ∃ G' rs', VLe G G' ∧ rgl rs' = (rgl rs).set i (nd x) ∧ RngS G' r rs' ∧ K e w' G' L) := by
 have hs := hv.sl
 refine enter1 (args := [v, .int .i64 (i : Int), .agg (rc x).toArray]) func182 rfl rfl rfl rfl ?_
 refine sq <| rg <| ?_
 refine bx hK rfl rfl ?_
 intro b5 w hK
 refine vl asg <| nl <| thn <| sq <| rg <| vl mv <| ?_
 refine cl call61 rfl (l3Copy_o hK hv hok) ?_
 rintro v1 w ⟨G1, rs', A, hG1, hrg, haf, ho, hK⟩
 replace hK := K.mid (A := A) (B := [_]) hK
 refine vl asg <| nl <| thn <| sq <| rg <| ?_
 refine bs0 hK underlying22 Ty.i3 ?_
 intro b10 w hK
 refine vl (fa underlying98 rfl Ty.z22 rfl) <| vl (ldO hK Ty.o22 1 rfl rfl rfl) <| ?_
 replace hx := hx.mono hG1
 have hxr := hx.le
 refine apI (xs := []) (ys := x.2.2.2) (A := [(b10, _)]) hK underlying22 Ty.i3 rfl rfl OS.none rfl hx (by simp; omega) fun v' A' w ho2 hK => ?_
 simp only [List.nil_append] at ho2
 replace hK := K.mid (A := A') (B := [_]) hK
 have hlr : rs'.length = rs.length := by rw [← rg_len, hrg, rg_len]
 have hir : i < rs'.length := by omega
 refine vl (fa underlying98 rfl Ty.z22 rfl) <| ?_
 refine so hK Ty.i22 rfl 0 rfl rfl rfl ho2.one rfl ?_
 intro w hK
 refine nl <| thn <| sq <| rg <| vl mv <| vl (mI rfl) <| vl (lsO hK Ty.a98 Ty.s98 0 rfl rfl rfl) <| vl (ixn underlying25 Ty.s98 rfl ho.slw rfl om) <| ?_
 replace hK : K e w G1 ((b5, row (rc (x.1, x.2.1, v', x.2.2.2)) 98) :: (A' ++ (A ++ L))) := hK
 replace hK : K _ _ _ (A ++ ((b5, row (rc (x.1, x.2.1, v', x.2.2.2)) 98) :: (A' ++ L))) := hK.reo
 refine osSetS (us := rc (x.1, x.2.1, v', x.2.2.2)) hK ho hir Ty.i98 rfl rfl rfl (allc rfl (allc rfl (allc ho2.one rfl))) fun A2 w ho3 hK => ?_
 refine nl <| thn <| sq <| rg <| vl mv <| vl asg <| nl <| thn <| rt <| p1r (a := _) rfl <| ?_
 rw [flat_sets (c := rc) (sz := 3) rc_len _ i (x.1, x.2.1, v', x.2.2.2) hir] at ho3
 replace hK := K.swap2 (K.dropX hK)
 obtain ⟨G2, hG2, hv', hK⟩ := hK.pubO ho2
 obtain ⟨G3, hG3, hR, hK⟩ := K.pubR (rs := rs'.set i (x.1, x.2.1, v', x.2.2.2)) (fun y hy => by
  rcases List.mem_or_eq_of_mem_set hy with h | rfl
  ·exact (haf y h).mono hG2
  ·exact hv') (by rw [List.length_set]; exact ho3) hK
 exact ⟨G3, _, (hG1.trans hG2).trans hG3, by rw [rgl_set, hrg]; rfl, hR, hK⟩
end
end Go.Proofs.YtmgggljicpmndaaGreatDoor
