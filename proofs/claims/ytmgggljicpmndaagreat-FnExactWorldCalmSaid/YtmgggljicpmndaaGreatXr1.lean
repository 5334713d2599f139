/- Contracts of the program's copies of rings, and of its steps: what they leave lies in new memory. Conditions: those that each row states. -/
import Derived.Test.YtmgggljicpmndaaGreatRq
import Derived.Test.YtmgggljicpmndaaGreatRgG
namespace Go.Proofs.YtmgggljicpmndaaGreat
open Go Go.Ro Tryz
section
variable {e w : World} {G G0 : View} {L A : Own} {v u : Value} {xs ys ks : List Int} {ls : List Ls} {rs qs : List Rn} {a b k id other at' : Int} {i j sb bk : Nat}
theorem copyRingF_c (hK : K e w G L) (hv : RngS G v rs) (hok : RgOk (rgl rs)) :
  Ret prog 70 #[v] w (fun r w' => ∃ G' rs' A, VLe G G' ∧ rgl rs' = rgl rs ∧ OR G' 79 r rs' A ∧ RnF 3 G G' rs' ∧ K e w' G' (A ++ L)) := by
 have hal := hal_of hok
 have hlen := len_of hok
 refine enter1 (args := [v]) func70 rfl rfl rfl rfl ?_
 refine sq <| rg <| ?_
 refine vl asg <| nl <| thn <| sq <| rg <| vl mv <| ?_
 refine cl call97 rfl (cloneN_c hK hv om) ?_
 rintro v1 w ⟨A0, ho0, hK⟩
 refine vl asg <| nl <| thn <| sq <| sq <| rg <| vl mv <| vl (ln underlying31 rfl ho0.len) <| vl (mI rfl) <| nl <| thn <| bk <| ?_
 refine lp (σ := Nat × View × List Rn × Own) (fun s => [(3, v1), (8, .int .i64 (rs.length : Int)), (9, .int .i64 (s.1 : Int))]) (fun s w => s.1 ≤ rs.length ∧ VLe G s.2.1 ∧ rgl s.2.2.1 = rgl rs ∧ (∀ x ∈ s.2.2.1, x.2.2.2.length ≤ 1000) ∧ OR s.2.1 79 v1 s.2.2.1 s.2.2.2 ∧ RnF 3 G s.2.1 (s.2.2.1.take s.1) ∧ K e w s.2.1 (s.2.2.2 ++ L)) (fun s => rs.length - s.1) (0, G, rs, A0) ⟨rfl, rfl, rfl, trivial⟩ ⟨Nat.zero_le _, VLe.refl _, rfl, hal, ⟨ho0, hv.aft⟩, RnF.nil, hK⟩ ?_
 rintro ⟨i, G1, rs1, A1⟩ g w ⟨hi, hG1, hr1, hl1, ho, hnf, hK⟩
 simp only at hi hG1 hr1 hl1 ho hnf hK
 have hln : rs1.length = rs.length := by rw [← rg_len, hr1, rg_len]
 refine sq <| rg <| ?_
 refine vl (lt rfl rfl) <| nl <| thn <| sq <| ?_
 refine cdP rfl (fun hc => ?_) fun hc => ?_
 ·have hi' : i < rs1.length := by simp only at hc; omega
  have hx := ho.at hi'
  have hxl := hl1 _ (List.getElem_mem hi')
  refine sk <| thn <| sq <| bk <| sq <| rg <| ?_
  refine vl (mI rfl) <| vl (aI rfl) <| nl <| thn <| rg <| vl mv <| vl (mI rfl) <| vl mv <| vl (mI rfl) <| vl (ixn underlying31 Ty.s79 rfl ho.os.slw rfl hi') <| vl (fe underlying79 rfl Ty.z25 rfl ho.os.slw om) <| vl (ldC Ty.o25 rfl (ho.cell hK hi' 2 rfl)) <| ?_
  refine cl call74 rfl (clone_c hK hx om) ?_
  rintro v2 w ⟨A2, ho2, hK⟩
  obtain ⟨G2, hG2, hx2, hxn, hxb, hK⟩ := K.pubOF hK ho2 hG1
  refine vl (ixn underlying31 Ty.s79 rfl ho.os.slw rfl hi') <| vl (fe underlying79 rfl Ty.z25 rfl ho.os.slw om) <| ?_
  refine osSetC hK ho.os (i := i * 3 + 2) om Ty.i25 rfl rfl rfl hx2.1.one fun A3 w ho3 hK => ?_
  refine nl <| bkn <| thn <| rg <| vl (ad rfl rfl) <| vl (mI rfl) <| nl <| thn <| ?_
  refine ⟨(i + 1, G2, rs1.set i (rs1[i].1, rs1[i].2.1, v2, rs1[i].2.2.2), A3), ⟨rfl, rfl, rfl, trivial⟩, ⟨by simp only; omega, hG1.trans hG2, by simp only; exact (rgl_same hi' (y := (rs1[i].1, rs1[i].2.1, v2, rs1[i].2.2.2)) rfl).trans hr1, ?_, (ho.mono hG2).put hi' (by omega) rfl hx2 ho3, ?_, hK⟩, by simp only; omega⟩
  ·intro x hm
   rcases List.mem_or_eq_of_mem_set hm with h1 | rfl
   ·exact hl1 x h1
   ·exact hxl
  ·simp only
   rw [take_set_succ hi']
   exact hnf.snoc (x := (rs1[i].1, rs1[i].2.1, v2, rs1[i].2.2.2)) hxn hG2 hxb
 ·have hi' : i = rs.length := by simp only at hc; omega
  refine ex <| the <| the <| bkh <| thn <| sq <| rg <| ?_
  refine vl mv <| vl asg <| nl <| thn <| rt <| p1r (a := _) rfl <| ?_
  rw [List.take_of_length_le (by omega)] at hnf
  exact ⟨G1, rs1, A1, hG1, hr1, ho, hnf, hK⟩
theorem copyRingF_v (hK : K e w G L) (hv : RngS G v rs) (hok : RgOk (rgl rs)) :
  Ret prog 70 #[v] w (fun r w' => ∃ G' rs', VLe G G' ∧ rgl rs' = rgl rs ∧ RngS G' r rs' ∧ RgNew 79 3 G G' r rs' ∧ K e w' G' L) :=
 (copyRingF_c hK hv hok).mono fun _ _ ⟨_, rs', _, h1, h2, h3, h5, h4⟩ => let ⟨G', g1, g2, g4, g3⟩ := h3.pubF h5 h4 h1; ⟨G', rs', h1.trans g1, h2, g2, g4, g3⟩
theorem takeF_c {F : FuncId} {cap : List Value} {o : Option (List Nd)} {b t : Nat} (hf : ∀ args w, (callFunc F args).run prog w = .ok (.enter F args) w) (hK : K e w G ((b, row (ints xs) t) :: L)) (hxs : Nat.ble xs.length 1000 = true) (hv : RngS G v rs)
  (hp : ∀ (G' : View) (sb : Nat) (v' : Value) (rs' : List Rn) (A : Own) (w : World), VLe G G' → RgSafe (rgl rs) → (∀ x ∈ xs, Pt x) → rgl rs' = rgl rs → RnF 3 G G' rs' → OR G' 79 v' rs' A → K e w G' ((sb, row [v'] 123) :: (A ++ ((b, row (ints xs) t) :: L))) →
   Ret prog F ([Value.pointer (some ⟨sb, 0, none⟩)] ++ cap).toArray w (StpF e G G' 79 3 123 sb ((b, row (ints xs) t) :: L) o)) :
  Ret prog 125 #[v, .func (.func F) #[] cap.toArray, .slice (some ⟨b, 0, none⟩) xs.length xs.length] w (fun r w' => ∃ G', VLe G G' ∧ RgF 79 3 G G' r (tk (rgl rs) (∀ x ∈ xs, Pt x) o) ∧ K e w' G' L) := by
 refine enter2 (args := [v, .func (.func F) #[] cap.toArray, .slice (some ⟨b, 0, none⟩) xs.length xs.length]) func125 rfl rfl rfl rfl ?_
 refine sq <| rg <| ?_
 refine vl asg <| vl (aB rfl) <| nl <| thn <| sq <| sq <| rg <| vl mv <| ?_
 refine cl call62 rfl (implRingSafe_c hK hv) ?_
 rintro _ w ⟨rfl, hK⟩
 refine vl (ntB rfl) <| vl (mB rfl) <| ?_
 refine spl (t := 12) rfl (fun h1 => ?_) fun h1 => ?_
 ·have h1' := not_dec (Eq.mp (Bool.not_eq_true' _) h1)
  refine gn rfl <| gn rfl <| gn rfl <| vl (pk rfl) <| nl <| thn <| ?_
  refine cdt rfl ?_
  refine sq <| rg <| ?_
  refine vl asg <| vl (aB rfl) <| nl <| thn <| rt <| thr <| p2r (a := _) (b := .bool _) rfl rfl <| ?_
  rw [tk_no fun h => h1' h.1]
  exact ⟨_, VLe.refl _, ⟨_, [], rfl, RngS.lit, rfl, RgNew.empty SlW.nil0⟩, hK.drop1⟩
 ·have hsf := of_dec (Eq.mp (Bool.not_eq_false' _) h1)
  have hok := hsf.1
  refine gy rfl <| vl mv <| gy rfl <| ?_
  refine cl call93 rfl (positions_o hK hxs) ?_
  rintro _ w ⟨rfl, hK⟩
  refine gy rfl <| vl (ntB rfl) <| vl (pk rfl) <| nl <| thn <| ?_
  refine cdB rfl (fun h2 => ?_) fun h2 => ?_
  ·have h2' := not_dec (Eq.mp (Bool.not_eq_true' _) h2)
   refine sq <| rg <| ?_
   refine vl asg <| vl (aB rfl) <| nl <| thn <| rt <| thr <| p2r (a := _) (b := .bool _) rfl rfl <| ?_
   rw [tk_no fun h => h2' h.2]
   exact ⟨_, VLe.refl _, ⟨_, [], rfl, RngS.lit, rfl, RgNew.empty SlW.nil0⟩, hK.drop1⟩
  ·have hps := of_dec (Eq.mp (Bool.not_eq_false' _) h2)
   refine sk <| thn <| sq <| rg <| ?_
   refine vl mv <| ?_
   refine cl call70 rfl (copyRingF_c hK hv hok) ?_
   rintro v1 w ⟨G1, rs1, A1, hG1, hr1, ho, hnf, hK⟩
   refine vl (bd [(0, _)] Ty.p123 Ty.i123 rfl ⟨⟨rfl, one_cells ho.os.one⟩, trivial⟩ rfl) <| ?_
   refine bx hK rfl rfl ?_
   intro b20 w hK
   refine vl asg <| nl <| thn <| sq <| sq <| rg <| vl mv <| vl mv <| ?_
   refine cf (cap := cap) (hf) rfl rfl (hp G1 b20 v1 rs1 A1 w hG1 hsf hps hr1 hnf ho hK) ?_
   rintro r w hst
   rcases hst with ⟨rfl, hoo, hK⟩ | ⟨G2, v2, rs2, A2, rfl, hoo, hG2, ho2, hnf2, hK⟩
   ·skip
    refine vl (ntB rfl) <| nl <| thn <| ?_
    refine cdB rfl (fun h3 => ?_) fun h3 => ?_
    ·refine sq <| rg <| ?_
     refine vl mv <| ?_
     refine cl call70 rfl (copyRingF_v hK (hv.mono hG1) hok) ?_
     rintro v3 w ⟨G3, rs3, hG3, hr3, hv3, hN3, hK⟩
     refine vl asg <| vl (aB rfl) <| nl <| thn <| rt <| thr <| p2r (a := _) (b := .bool _) rfl rfl <| ?_
     refine ⟨G3, hG1.trans hG3, ?_, hK.drop1⟩
     have hfin := tk_ot (r := rgl rs) (o := o) ⟨hsf, hps⟩
     rw [hoo] at hfin
     rw [hoo]
     exact RgF.to hfin hv3 hr3 (hN3.older hG1)
    ·simp at h3
   ·skip
    refine vl (ntB rfl) <| nl <| thn <| ?_
    refine cdB rfl (fun h3 => ?_) fun h3 => ?_
    ·simp at h3
    ·have _ := trivial
     refine sk <| thn <| sq <| rg <| ?_
     refine vl mv <| vl (nc rfl) <| vl (fa underlying123 rfl Ty.z31 rfl) <| vl (ldO hK Ty.o31 0 rfl rfl rfl) <| vl asg <| vl (aB rfl) <| nl <| thn <| rt <| p2r (a := _) (b := .bool _) rfl rfl <| ?_
     obtain ⟨G3, hG3, hv3, hN3, hK⟩ := ho2.pubF hnf2 (K.drop1 hK) (hG1.trans hG2)
     refine ⟨G3, (hG1.trans hG2).trans hG3, ?_, hK.drop1⟩
     have hfin := tk_ot (r := rgl rs) (o := o) ⟨hsf, hps⟩
     rw [hoo] at hfin
     rw [hoo]
     exact RgF.to hfin hv3 rfl hN3
end
end Go.Proofs.YtmgggljicpmndaaGreat
