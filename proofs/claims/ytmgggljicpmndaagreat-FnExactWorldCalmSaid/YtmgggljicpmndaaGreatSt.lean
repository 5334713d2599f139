/- Contracts: a node's round of the specification. Conditions: those that each row states. -/
import Derived.Test.YtmgggljicpmndaaGreatRq
import Derived.Test.YtmgggljicpmndaaGreatStM
namespace Go.Proofs.YtmgggljicpmndaaGreat
open Go Go.Ro Tryz
section
variable {e w : World} {G : View} {L A : Own} {v u : Value} {rs qs : List Rn} {id other k : Int} {i j : Nat}
theorem ndA_ix {G : View} {v : Value} {rs rs' : List Rn} {id : Int} {i : Nat} (hn : NdA G rs id i) {G' : View} (hv : RngS G' v rs') (hok : RgOk (rgl rs')) (hi : ids (rgl rs') = ids (rgl rs)) : NdA G' rs' id i := by
 obtain ⟨i', h⟩ := NdA.of hv hok (by rw [hi]; exact hn.mem)
 have : i' = i := by rw [← h.hfx, ← hn.hfx]; exact fx_ids hi id
 rw [← this]; exact h
theorem l4Stabilize_c (hK : K e w G L) (hv : RngS G v rs) (hsf : RgSafe (rgl rs)) (hn : NdA G rs id i) :
  Ret prog 85 #[v, .int .i64 (i : Int)] w (fun r w' => ∃ G' rs', VLe G G' ∧ RngS G' r rs' ∧ rgl rs' = stabR (rgl rs) id ∧ K e w' G' L) := by
 have hi := hn.lt
 refine enter1 (args := [v, .int .i64 (i : Int)]) func85 rfl rfl rfl rfl ?_
 refine sq <| rg <| ?_
 refine vl asg <| nl <| thn <| sq <| rg <| vl (aB rfl) <| nl <| thn <| sq <| sq <| rg <| vl (aI rfl) <| nl <| thn <| ?_
 refine ct (σ := View × Value × List Rn) (fun s => [(0, s.2.1), (1, .int .i64 (i : Int))]) (fun s w => VLe G s.1 ∧ RngS s.1 s.2.1 s.2.2 ∧ rgl s.2.2 = drN 2 (rgl rs) id ∧ K e w s.1 L) ?_ ?_
 ·refine bk <| ?_
  refine lp (σ := Nat × Bool × View × Value × List Rn) (fun s => [(0, s.2.2.2.1), (1, .int .i64 (i : Int)), (5, .bool s.2.1), (6, .int .i64 (s.1 : Int))]) (fun s w => s.1 ≤ 2 ∧ VLe G s.2.2.1 ∧ RngS s.2.2.1 s.2.2.2.1 s.2.2.2.2 ∧ RgSafe (rgl s.2.2.2.2) ∧ ids (rgl s.2.2.2.2) = ids (rgl rs) ∧ drN (2 - s.1) (rgl s.2.2.2.2) id = drN 2 (rgl rs) id ∧ (s.2.1 = false → dr (rgl s.2.2.2.2) id = rgl s.2.2.2.2) ∧ K e w s.2.2.1 L) (fun s => 2 - s.1) (0, true, G, v, rs) ⟨rfl, rfl, rfl, rfl, trivial⟩ ⟨Nat.zero_le _, VLe.refl _, hv, hsf, rfl, rfl, (fun h => by cases h), hK⟩ ?_
  rintro ⟨n, dd, G1, v1, rs1⟩ g w ⟨hn2, hG1, hv1, hs1, hi1, hd1, hf1, hK⟩
  simp only at hn2 hG1 hv1 hs1 hi1 hd1 hf1 hK
  have hn1 := ndA_ix hn hv1 hs1.1 hi1
  refine sq <| sq <| rg <| ?_
  refine vl (mI rfl) <| vl (lt rfl rfl) <| vl (mB rfl) <| ?_
  refine splP (t := 12) rfl (fun h1 => ?_) fun h1 => ?_
  ·have hnn : n < 2 := by omega
   refine gy rfl <| vl (mB rfl) <| vl (pk rfl) <| nl <| thn <| ?_
   refine cdB rfl (fun h2 => ?_) fun h2 => ?_
   ·subst h2
    refine sk <| thn <| sq <| bk <| sq <| rg <| ?_
    refine vl mv <| vl (mI rfl) <| ?_
    refine cl call105 rfl (l4Drop_c hK hv1 hs1.1 hn1) ?_
    rintro _ w ⟨G2, hG2, ⟨v2, rs2, rfl, hv2, hr2⟩, hK⟩
    refine vl mv <| vl (ext rfl rfl) <| vl (ext rfl rfl) <| vl asg <| vl (aB rfl) <| nl <| thn <| sq <| rg <| vl mv <| vl asg <| nl <| thn <| rg <| vl (mB rfl) <| vl (aB rfl) <| nl <| bkn <| thn <| ?_
    refine rg <| vl (mI rfl) <| vl (ad rfl rfl) <| vl (aI rfl) <| nl <| thn <| ?_
    exact ⟨(n + 1, (dropR (rgl rs1) id).isSome, G2, v2, rs2), ⟨rfl, rfl, congrArg Value.bool ot_b, rfl, trivial⟩, ⟨hnn, hG1.trans hG2, hv2, by rw [hr2, ot_dr]; exact dr_safe hs1, by rw [hr2, ot_dr, dr_ids, hi1], by
     rw [hr2, ot_dr, ← hd1]; show drN (2 - (n + 1)) (dr _ _) _ = _
     have : 2 - n = (2 - (n + 1)) + 1 := by omega
     rw [this]; rfl, fun h => by
     rw [hr2, ot_dr]; have : dropR (rgl rs1) id = none := by simpa using h
     rw [dr_none this, dr_none this], hK⟩, by simp only; omega⟩
   ·have hdr : rgl rs1 = drN 2 (rgl rs) id := by rw [← hd1]; exact (drN_fix (hf1 (by simpa using h2)) _).symm
    refine ex <| the <| the <| bkh <| ctn <| ?_
    exact ⟨(G1, v1, rs1), ⟨rfl, rfl, trivial⟩, hG1, hv1, hdr, hK⟩
  ·have hdr : rgl rs1 = drN 2 (rgl rs) id := by
    have : n = 2 := by omega
    subst this; exact hd1
   refine gn rfl <| vl (pk rfl) <| nl <| thn <| ?_
   refine cdf rfl ?_
   refine ex <| the <| the <| bkh <| ctn <| ?_
   exact ⟨(G1, v1, rs1), ⟨rfl, rfl, trivial⟩, hG1, hv1, hdr, hK⟩
 ·rintro ⟨G1, v1, rs1⟩ g w ⟨hG1, hv1, hr1, hK⟩
  simp only at hG1 hv1 hr1 hK
  have hs1 : RgSafe (rgl rs1) := by rw [hr1]; exact drN_safe 2 _ hsf
  have hi1 : ids (rgl rs1) = ids (rgl rs) := by rw [hr1]; exact drN_ids 2 _
  have ha1 : a0 (ndAt (rgl rs1) id) ∈ ids (rgl rs1) := by rw [hi1, hr1]; exact dr2_live hsf hn.mem
  have hn1 := ndA_ix hn hv1 hs1.1 hi1
  refine thn <| sq <| rg <| ?_
  refine vl mv <| vl (mI rfl) <| ?_
  refine cl call106 rfl (l4Adopt_c hK hv1 hs1.1 hn1) ?_
  rintro _ w ⟨G2, hG2, ⟨v2, rs2, rfl, hv2, hr2⟩, hK⟩
  rw [ot_1] at hr2
  replace hr2 : rgl rs2 = ad1 (rgl rs1) id := hr2
  have hs2 : RgSafe (rgl rs2) := by rw [hr2]; exact ad1_safe hs1
  have hi2 : ids (rgl rs2) = ids (rgl rs) := by rw [hr2, ad1_ids, hi1]
  have ha2 : a0 (ndAt (rgl rs2) id) ∈ ids (rgl rs2) := by rw [hr2, ad1_ids]; exact ad1_live hn1.mem ha1
  have hn2 := ndA_ix hn hv2 hs2.1 hi2
  obtain ⟨m, hm⟩ := NdA.of hv2 hs2.1 ha2
  have hsl2 := hv2.sl
  have hx2 := hn2.aft
  have hlt2 := hn2.lt
  have hy2 := hn2.len
  have hz2 := hn2.ha0
  refine vl mv <| vl (ext rfl rfl) <| vl (ext rfl rfl) <| vl asg <| nl <| thn <| sq <| rg <| vl mv <| vl mv <| vl (mI rfl) <| vl (ixn underlying31 Ty.s79 rfl hsl2.1 rfl om) <| vl (fe underlying79 rfl Ty.z25 rfl hsl2.1 om) <| vl (ldV hK Ty.o25 rfl (hsl2.cell om 2 rfl)) <| vl (ixn1 underlying25 Ty.s3 rfl hx2.1 rfl om) <| vl (ldV hK Ty.o3 rfl (hx2.at om)) <| ?_
  refine cl call103 rfl (l3Find_c hK hv2) ?_
  rintro r9 w ⟨hr9, hK⟩
  rw [hz2, fI_in ha2, hm.hfx] at hr9
  subst hr9
  have hltm := hm.lt
  have hmb := hm.bef
  refine vl (aI rfl) <| nl <| thn <| sq <| sq <| rg <| vl mv <| vl (mI rfl) <| vl (ixn underlying31 Ty.s79 rfl hsl2.1 rfl om) <| vl (fe underlying79 rfl Ty.z3 rfl hsl2.1 om) <| vl (ldV hK Ty.o3 rfl (hsl2.cell om 1 rfl)) <| vl (ge rfl rfl) <| nl <| thn <| ?_
  refine ct (σ := View × Value × List Rn × Nat) (fun s => [(0, s.2.1), (1, .int .i64 (i : Int)), (9, .int .i64 (s.2.2.2 : Int))]) (fun s w => VLe G2 s.1 ∧ RngS s.1 s.2.1 s.2.2.1 ∧ rgl s.2.2.1 = clo1 (rgl rs2) id ∧ NdA s.1 s.2.2.1 (a0 (ndAt (rgl s.2.2.1) id)) s.2.2.2 ∧ K e w s.1 L) ?_ ?_
  ·refine cdP rfl (fun hc => ?_) fun hc => ?_
   ·have hc' : 0 ≤ (ndAt (rgl rs2) (a0 (ndAt (rgl rs2) id))).2.1 := by rw [← hmb]; exact hc
    refine sq <| rg <| ?_
    refine vl mv <| vl (mI rfl) <| vl mv <| vl (mI rfl) <| vl (ixn underlying31 Ty.s79 rfl hsl2.1 rfl om) <| vl (fe underlying79 rfl Ty.z3 rfl hsl2.1 om) <| vl (ldV hK Ty.o3 rfl (hsl2.cell om 1 rfl)) <| ?_
    refine cl call107 rfl (l4Closer_c hK hv2 hs2.1 hn2) ?_
    rintro _ w ⟨G3, hG3, ⟨v3, rs3, rfl, hv3, hr3⟩, hK⟩
    rw [ot_1, hmb] at hr3
    have hr3' : rgl rs3 = clo1 (rgl rs2) id := by unfold clo1; rw [if_pos hc']; exact hr3
    have hs3 : RgSafe (rgl rs3) := by rw [hr3']; exact clo1_safe hs2
    have hi3 : ids (rgl rs3) = ids (rgl rs2) := by rw [hr3', clo1_ids]
    have ha3 : a0 (ndAt (rgl rs3) id) ∈ ids (rgl rs3) := by rw [hr3', clo1_ids]; exact clo1_live ha2
    have hn3 := ndA_ix hn2 hv3 hs3.1 hi3
    obtain ⟨m3, hm3⟩ := NdA.of hv3 hs3.1 ha3
    have hsl3 := hv3.sl
    have hx3 := hn3.aft
    have hlt3 := hn3.lt
    have hy3 := hn3.len
    have hz3 := hn3.ha0
    refine vl mv <| vl (ext rfl rfl) <| vl (ext rfl rfl) <| vl asg <| nl <| thn <| rg <| vl mv <| vl mv <| vl (mI rfl) <| vl (ixn underlying31 Ty.s79 rfl hsl3.1 rfl om) <| vl (fe underlying79 rfl Ty.z25 rfl hsl3.1 om) <| vl (ldV hK Ty.o25 rfl (hsl3.cell om 2 rfl)) <| vl (ixn1 underlying25 Ty.s3 rfl hx3.1 rfl om) <| vl (ldV hK Ty.o3 rfl (hx3.at om)) <| ?_
    refine cl call103 rfl (l3Find_c hK hv3) ?_
    rintro r9 w ⟨hr9, hK⟩
    rw [hz3, fI_in ha3, hm3.hfx] at hr9
    subst hr9
    refine vl (aI rfl) <| nl <| ctn <| ?_
    exact ⟨(G3, v3, rs3, m3), ⟨rfl, rfl, rfl, trivial⟩, hG3, hv3, hr3', hm3, hK⟩
   ·have hc' : ¬ 0 ≤ (ndAt (rgl rs2) (a0 (ndAt (rgl rs2) id))).2.1 := by rw [← hmb]; exact hc
    refine sk <| ctn <| ?_
    exact ⟨(G2, v2, rs2, m), ⟨rfl, rfl, rfl, trivial⟩, VLe.refl _, hv2, by unfold clo1; rw [if_neg hc'], hm, hK⟩
  ·rintro ⟨G3, v3, rs3, m3⟩ g w ⟨hG3, hv3, hr3, hm3, hK⟩
   simp only at hG3 hv3 hr3 hm3 hK
   have hs3 : RgSafe (rgl rs3) := by rw [hr3]; exact clo1_safe hs2
   have hi3 : ids (rgl rs3) = ids (rgl rs2) := by rw [hr3, clo1_ids]
   have hn3 := ndA_ix hn2 hv3 hs3.1 hi3
   have hsl3 := hv3.sl
   have hlt3 := hn3.lt
   have hid3 := hn3.hid
   refine thn <| sq <| rg <| ?_
   refine vl mv <| vl (mI rfl) <| vl mv <| vl (mI rfl) <| vl (ixn underlying31 Ty.s79 rfl hsl3.1 rfl om) <| vl (fe underlying79 rfl Ty.z3 rfl hsl3.1 om) <| vl (ldV hK Ty.o3 rfl (hsl3.cell om 0 rfl)) <| ?_
   refine cl call108 rfl (l4Notify_c hK hv3 hs3.1 hm3 (by rw [hid3]; exact hn3.pid)) ?_
   rintro _ w ⟨G4, hG4, ⟨v4, rs4, rfl, hv4, hr4⟩, hK⟩
   rw [ot_1, hid3] at hr4
   refine vl mv <| vl (ext rfl rfl) <| vl (ext rfl rfl) <| vl asg <| nl <| thn <| sq <| rg <| vl mv <| vl asg <| nl <| thn <| rt <| p1r (a := _) rfl <| ?_
   exact ⟨G4, rs4, ((hG1.trans hG2).trans hG3).trans hG4, hv4, by rw [hr4, hr3, hr2, hr1]; rfl, hK⟩
end
end Go.Proofs.YtmgggljicpmndaaGreat