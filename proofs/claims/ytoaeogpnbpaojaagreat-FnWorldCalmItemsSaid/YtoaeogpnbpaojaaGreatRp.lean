/- Contracts of the program's steps of a ring. Conditions: those that each row states. -/
import Derived.Test.YtoaeogpnbpaojaaGreatRs3
namespace Go.Proofs.YtoaeogpnbpaojaaGreat
open Go Go.Ro

section
variable {e w : World} {G : View} {L : Own} {v u : Value} {xs ys ks : List Int} {ls : List Ls} {rs : List Rn} {a b k id other : Int} {i j : Nat}

theorem cloneN_c (hK : K e w G L) (hv : RngS G v rs) (hle : rs.length ≤ 100000) :
  Ret Tryz.prog 125 #[v] w (fun r w' => ∃ A, OS 3 106 r rs.length (rs.flatMap rc) A ∧ K e w' G (A ++ L)) := by
 have hs := hv.sl
 refine enter1 (args := [v]) Tryz.func125 rfl rfl rfl rfl ?_
 refine sq <| rg <| ?_
 refine vl asg <| nl <| thn <| sq <| sq <| rg <| vl mv <| vl (eqSn Tryz.underlying23 rfl hs.len rfl) <| nl <| thn <| ?_
 refine cdB rfl (fun h => ?_) (fun h => ?_)
 ·have hx : rs = [] := List.eq_nil_of_length_eq_zero (hs.1.nil_len h)
  subst hx
  refine sq <| rg <| ?_
  refine vl asg <| nl <| thn <| rt <| thr <| p1r (a := _) rfl <| ?_
  exact ⟨[], OS.nil _ _, hK⟩
 ·refine sk <| thn <| sq <| rg <| ?_
  refine bs0 hK Tryz.underlying23 Ty.i106 ?_
  intro b5 w hK
  refine vl mv <| ?_
  refine apR (xs := []) (ys := rs) hK Tryz.underlying23 Ty.i106 rfl rfl rfl OS.none rfl hs hv.one (by simp; omega) fun v' A' w ho hK => ?_
  refine vl asg <| nl <| thn <| rt <| p1r (a := _) rfl <| ?_
  exact ⟨A', ho, hK⟩

theorem copyRing_c (hK : K e w G L) (hv : RngS G v rs) (hok : RgOk (rgl rs)) :
  Ret Tryz.prog 83 #[v] w (fun r w' => ∃ G' rs' A, VLe G G' ∧ rgl rs' = rgl rs ∧ OR G' 106 r rs' A ∧ K e w' G' (A ++ L)) := by
 have hal := hal_of hok
 have hlen := len_of hok
 refine enter1 (args := [v]) Tryz.func83 rfl rfl rfl rfl ?_
 refine sq <| rg <| ?_
 refine vl asg <| nl <| thn <| sq <| rg <| vl mv <| ?_
 refine cl Tryz.call125 rfl (cloneN_c hK hv om) ?_
 rintro v1 w ⟨A0, ho0, hK⟩
 refine vl asg <| nl <| thn <| sq <| sq <| rg <| vl mv <| vl (ln Tryz.underlying23 rfl ho0.len) <| vl (mI rfl) <| nl <| thn <| bk <| ?_
 refine lp (σ := Nat × View × List Rn × Own) (fun s => [(3, v1), (8, .int .i64 (rs.length : Int)), (9, .int .i64 (s.1 : Int))]) (fun s w => s.1 ≤ rs.length ∧ VLe G s.2.1 ∧ rgl s.2.2.1 = rgl rs ∧ (∀ x ∈ s.2.2.1, x.2.2.2.length ≤ 1000) ∧ OR s.2.1 106 v1 s.2.2.1 s.2.2.2 ∧ K e w s.2.1 (s.2.2.2 ++ L)) (fun s => rs.length - s.1) (0, G, rs, A0) ⟨rfl, rfl, rfl, trivial⟩ ⟨Nat.zero_le _, VLe.refl _, rfl, hal, ⟨ho0, hv.aft⟩, hK⟩ ?_
 rintro ⟨i, G1, rs1, A1⟩ g w ⟨hi, hG1, hr1, hl1, ho, hK⟩
 simp only at hi hG1 hr1 hl1 ho hK
 have hln : rs1.length = rs.length := by rw [← rg_len, hr1, rg_len]
 refine sq <| rg <| ?_
 refine vl (lt rfl rfl) <| nl <| thn <| sq <| ?_
 refine cdP rfl (fun hc => ?_) (fun hc => ?_)
 ·have hi' : i < rs1.length := by simp only at hc; omega
  have hx := ho.at hi'
  have hxl := hl1 _ (List.getElem_mem hi')
  refine sk <| thn <| sq <| bk <| sq <| rg <| ?_
  refine vl (mI rfl) <| vl (aI rfl) <| nl <| thn <| rg <| vl mv <| vl (mI rfl) <| vl mv <| vl (mI rfl) <| vl (ixn Tryz.underlying23 Ty.s106 rfl ho.os.slw rfl hi') <| vl (fe Tryz.underlying106 rfl Ty.z26 rfl ho.os.slw om) <| vl (ldC Ty.o26 rfl (ho.cell hK hi' 2 rfl)) <| ?_
  refine cl Tryz.call87 rfl (clone_c hK hx om) ?_
  rintro v2 w ⟨A2, ho2, hK⟩
  obtain ⟨G2, hG2, hx2, hK⟩ := hK.pubO ho2
  refine vl (ixn Tryz.underlying23 Ty.s106 rfl ho.os.slw rfl hi') <| vl (fe Tryz.underlying106 rfl Ty.z26 rfl ho.os.slw om) <| ?_
  refine osSetC hK ho.os (i := i * 3 + 2) om Ty.i26 rfl rfl rfl hx2.1.one fun A3 w ho3 hK => ?_
  refine nl <| bkn <| thn <| rg <| vl (ad rfl rfl) <| vl (mI rfl) <| nl <| thn <| ?_
  refine ⟨(i + 1, G2, rs1.set i (rs1[i].1, rs1[i].2.1, v2, rs1[i].2.2.2), A3), ⟨rfl, rfl, rfl, trivial⟩, ⟨by simp only; omega, hG1.trans hG2, by simp only; exact (rgl_same hi' (y := (rs1[i].1, rs1[i].2.1, v2, rs1[i].2.2.2)) rfl).trans hr1, ?_, (ho.mono hG2).put hi' (by omega) rfl hx2 ho3, hK⟩, by simp only; omega⟩
  intro x hm
  rcases List.mem_or_eq_of_mem_set hm with h1 | rfl
  ·exact hl1 x h1
  ·exact hxl
 ·have hi' : i = rs.length := by simp only at hc; omega
  refine ex <| the <| the <| bkh <| thn <| sq <| rg <| ?_
  refine vl mv <| vl asg <| nl <| thn <| rt <| p1r (a := _) rfl <| ?_
  exact ⟨G1, rs1, A1, hG1, hr1, ho, hK⟩

theorem copyRing_v (hK : K e w G L) (hv : RngS G v rs) (hok : RgOk (rgl rs)) :
  Ret Tryz.prog 83 #[v] w (fun r w' => ∃ G' rs', VLe G G' ∧ rgl rs' = rgl rs ∧ RngS G' r rs' ∧ K e w' G' L) :=
 (copyRing_c hK hv hok).mono fun _ _ ⟨_, rs', _, h1, h2, h3, h4⟩ => let ⟨G', g1, g2, g3⟩ := h3.pub h4; ⟨G', rs', h1.trans g1, h2, g2, g3⟩

theorem take_c {F : FuncId} {cap : List Value} {o : Option (List Nd)} {b t : Nat} (hf : ∀ args w, (callFunc F args).run Tryz.prog w = .ok (.enter F args) w) (hK : K e w G ((b, row (ints xs) t) :: L)) (hxs : Nat.ble xs.length 1000 = true) (hv : RngS G v rs)
  (hp : ∀ (G' : View) (sb : Nat) (v' : Value) (rs' : List Rn) (A : Own) (w : World), VLe G G' → RgSafe (rgl rs) → (∀ x ∈ xs, Pt x) → rgl rs' = rgl rs → OR G' 106 v' rs' A → K e w G' ((sb, row [v'] 155) :: (A ++ ((b, row (ints xs) t) :: L))) →
   Ret Tryz.prog F ([Value.pointer (some ⟨sb, 0, none⟩)] ++ cap).toArray w (StpR e G' 106 155 sb ((b, row (ints xs) t) :: L) o)) :
  Ret Tryz.prog 171 #[v, .func (.func F) #[] cap.toArray, .slice (some ⟨b, 0, none⟩) xs.length xs.length] w (fun r w' => ∃ G', VLe G G' ∧ RgA G' r (tk (rgl rs) (∀ x ∈ xs, Pt x) o) ∧ K e w' G' L) := by
 refine enter2 (args := [v, .func (.func F) #[] cap.toArray, .slice (some ⟨b, 0, none⟩) xs.length xs.length]) Tryz.func171 rfl rfl rfl rfl ?_
 refine sq <| rg <| ?_
 refine vl asg <| vl (aB rfl) <| nl <| thn <| sq <| sq <| rg <| vl mv <| ?_
 refine cl Tryz.call42 rfl (implRingSafe_c hK hv) ?_
 rintro _ w ⟨rfl, hK⟩
 refine vl (ntB rfl) <| vl (mB rfl) <| ?_
 refine spl (t := 12) rfl (fun h1 => ?_) (fun h1 => ?_)
 ·have h1' := not_dec (Eq.mp (Bool.not_eq_true' _) h1)
  refine gn rfl <| gn rfl <| gn rfl <| vl (pk rfl) <| nl <| thn <| ?_
  refine cdt rfl ?_
  refine sq <| rg <| ?_
  refine vl asg <| vl (aB rfl) <| nl <| thn <| rt <| thr <| p2r (a := _) (b := .bool _) rfl rfl <| ?_
  rw [tk_no fun h => h1' h.1]
  exact ⟨_, VLe.refl _, ⟨_, [], rfl, RngS.lit, rfl⟩, hK.drop1⟩
 ·have hsf := of_dec (Eq.mp (Bool.not_eq_false' _) h1)
  have hok := hsf.1
  refine gy rfl <| vl mv <| gy rfl <| ?_
  refine cl Tryz.call105 rfl (positions_o hK hxs) ?_
  rintro _ w ⟨rfl, hK⟩
  refine gy rfl <| vl (ntB rfl) <| vl (pk rfl) <| nl <| thn <| ?_
  refine cdB rfl (fun h2 => ?_) (fun h2 => ?_)
  ·have h2' := not_dec (Eq.mp (Bool.not_eq_true' _) h2)
   refine sq <| rg <| ?_
   refine vl asg <| vl (aB rfl) <| nl <| thn <| rt <| thr <| p2r (a := _) (b := .bool _) rfl rfl <| ?_
   rw [tk_no fun h => h2' h.2]
   exact ⟨_, VLe.refl _, ⟨_, [], rfl, RngS.lit, rfl⟩, hK.drop1⟩
  ·have hps := of_dec (Eq.mp (Bool.not_eq_false' _) h2)
   refine sk <| thn <| sq <| rg <| ?_
   refine vl mv <| ?_
   refine cl Tryz.call83 rfl (copyRing_c hK hv hok) ?_
   rintro v1 w ⟨G1, rs1, A1, hG1, hr1, ho, hK⟩
   refine vl (bd [(0, _)] Ty.p155 Ty.i155 rfl ⟨⟨rfl, one_cells ho.os.one⟩, trivial⟩ rfl) <| ?_
   refine bx hK rfl rfl ?_
   intro b20 w hK
   refine vl asg <| nl <| thn <| sq <| sq <| rg <| vl mv <| vl mv <| ?_
   refine cf (cap := cap) (hf) rfl rfl (hp G1 b20 v1 rs1 A1 w hG1 hsf hps hr1 ho hK) ?_
   rintro r w hst
   rcases hst with ⟨rfl, hoo, hK⟩ | ⟨G2, v2, rs2, A2, rfl, hoo, hG2, ho2, hK⟩
   ·skip
    refine vl (ntB rfl) <| nl <| thn <| ?_
    refine cdB rfl (fun h3 => ?_) (fun h3 => ?_)
    ·refine sq <| rg <| ?_
     refine vl mv <| ?_
     refine cl Tryz.call83 rfl (copyRing_v hK (hv.mono hG1) hok) ?_
     rintro v3 w ⟨G3, rs3, hG3, hr3, hv3, hK⟩
     refine vl asg <| vl (aB rfl) <| nl <| thn <| rt <| thr <| p2r (a := _) (b := .bool _) rfl rfl <| ?_
     refine ⟨G3, hG1.trans hG3, ?_, hK.drop1⟩
     have hfin := tk_ot (r := rgl rs) (o := o) ⟨hsf, hps⟩
     rw [hoo] at hfin
     rw [hoo]
     exact RgA.to hfin hv3 hr3
    ·simp at h3
   ·skip
    refine vl (ntB rfl) <| nl <| thn <| ?_
    refine cdB rfl (fun h3 => ?_) (fun h3 => ?_)
    ·simp at h3
    ·have _ := trivial
     refine sk <| thn <| sq <| rg <| ?_
     refine vl mv <| vl (nc rfl) <| vl (fa Tryz.underlying155 rfl Ty.z23 rfl) <| vl (ldO hK Ty.o23 0 rfl rfl rfl) <| vl asg <| vl (aB rfl) <| nl <| thn <| rt <| p2r (a := _) (b := .bool _) rfl rfl <| ?_
     obtain ⟨G3, hG3, hv3, hK⟩ := ho2.pub (K.drop1 hK)
     refine ⟨G3, (hG1.trans hG2).trans hG3, ?_, hK.drop1⟩
     have hfin := tk_ot (r := rgl rs) (o := o) ⟨hsf, hps⟩
     rw [hoo] at hfin
     rw [hoo]
     exact RgA.to hfin hv3 rfl
end
end Go.Proofs.YtoaeogpnbpaojaaGreat
