/- Contracts of the functions that draw rings. Conditions: those that each row states. -/
import Derived.Test.YtmfolinemnlnbaaGreatDoorSt
namespace Go.Proofs.YtmfolinemnlnbaaGreatDoor
open Go Go.Ro Tryz
section
variable {e w : World} {G : View} {L A : Own} {v u cva : Value} {code xs ys : List Int} {rs qs : List Rn} {a b c k kd p : Int} {rb : Nat}
theorem tk_safe {r : List Nd} {ok : Prop} {o : Option (List Nd)} (h : RgSafe r) (hok : ok) (ho : ∀ x, o = some x → RgSafe x) : RgSafe (tk r ok o).1 := by
 rw [tk_ot ⟨h, hok⟩]; cases o with
 | none => exact h
 | some x => exact ho x rfl
theorem rgSafe_pos {rs : List Rn} (h : RgSafe (rgl rs)) : 1 ≤ rs.length := by
 rcases rs with _ | ⟨x, rs⟩
 ·have := h.2.2; simp [rgl, prin, ids] at this
 ·simp
set_option maxHeartbeats 4000000 in
theorem l91Step_c (hK : K e w G ((rb, row [cva, .int .i64 p] 98) :: L)) (hcode : BytS G cva code) (hlen : code.length ≤ 2000) (h0 : 0 ≤ p) (h1 : p ≤ 800000000) (hv : RngS G v rs) (hsf : RgSafe (rgl rs)) :
  Ret prog 152 #[.pointer (some ⟨rb, 0, none⟩), v] w (fun r w' => ∃ G' rs' p', VLe G G' ∧ RngS G' r rs' ∧ RgSafe (rgl rs') ∧ p ≤ p' ∧ p' ≤ p + 10 ∧ K e w' G' ((rb, row [cva, .int .i64 p'] 98) :: L)) := by
 have hs := hv.sl
 have hle := hs.le
 have hpos := rgSafe_pos hsf
 have hl10 := len_of hsf.1
 have hpt : ∀ i : Nat, (h : i < rs.length) → Pt rs[i].1 := fun i h => (rgOk_at hsf.1 h).1
 refine enter1 (args := [.pointer (some ⟨rb, 0, none⟩), v]) func152 rfl rfl rfl rfl ?_
 refine sq <| rg <| ?_
 refine vl asg <| nl <| thn <| sq <| sq <| rg <| vl mv <| vl (ln underlying23 rfl hs.len) <| vl (eq rfl rfl) <| nl <| thn <| ?_
 refine cdP rfl (fun hc => ?_) fun hc => ?_
 ·exact absurd hc (by omega)
 ·refine sk <| thn <| sq <| rg <| ?_
  refine vl mv <| vl mv <| vl mv <| vl (ln underlying23 rfl hs.len) <| ?_
  refine cl call32 rfl (pickN_c hK hcode hlen h0 om om) ?_
  rintro _ w ⟨⟨k16, rfl, r1, r2⟩, hK⟩
  obtain ⟨m1, rfl⟩ : ∃ m : Nat, k16 = m := ⟨k16.toNat, by omega⟩
  have hp1 := hpt m1 (by omega)
  refine vl (ixm (m := m1) underlying23 Ty.s40 rfl hs.1 rfl om om) <| vl (fe underlying40 rfl Ty.z3 rfl hs.1 om) <| vl (ldV hK Ty.o3 rfl (hs.cell om 0 rfl)) <| vl (aI rfl) <| nl <| thn <| sq <| rg <| vl mv <| vl mv <| vl mv <| vl (ln underlying23 rfl hs.len) <| ?_
  refine cl call32 rfl (pickN_c hK hcode hlen om om om) ?_
  rintro _ w ⟨⟨k24, rfl, r3, r4⟩, hK⟩
  obtain ⟨m2, rfl⟩ : ∃ m : Nat, k24 = m := ⟨k24.toNat, by omega⟩
  have hp2 := hpt m2 (by omega)
  refine vl (ixm (m := m2) underlying23 Ty.s40 rfl hs.1 rfl om om) <| vl (fe underlying40 rfl Ty.z3 rfl hs.1 om) <| vl (ldV hK Ty.o3 rfl (hs.cell om 0 rfl)) <| vl (aI rfl) <| nl <| thn <| sq <| rg <| vl mv <| vl asg <| nl <| thn <| sq <| sq <| rg <| vl mv <| ?_
  refine cl call32 rfl (pickN_c hK hcode hlen om om om) ?_
  rintro _ w ⟨⟨k30, rfl, r5, r6⟩, hK⟩
  refine nl <| thn <| ?_
  refine ct (σ := View × Value × List Rn × Int) (fun s => [(7, s.2.1)]) (fun s w => VLe G s.1 ∧ RngS s.1 s.2.1 s.2.2.1 ∧ RgSafe (rgl s.2.2.1) ∧ (p ≤ s.2.2.2 ∧ s.2.2.2 ≤ p + 10) ∧ K e w s.1 ((rb, row [cva, .int .i64 s.2.2.2] 98) :: L)) ?_ ?_
  ·refine bk <| sq <| sq <| rg <| ?_
   refine vl (eq rfl rfl) <| vl (aB rfl) <| nl <| thn <| ?_
   refine cdP rfl (fun c0_0 => ?_) fun c0_0 => ?_
   ·refine sk <| thn <| ?_
    refine cdP rfl (fun d0_0 => ?_) fun d0_0 => ?_
    ·refine rg <| ?_
     refine vl mv <| vl (mI rfl) <| vl (ad rfl rfl) <| vl mv <| ?_
     refine cl call32 rfl (pickN_c hK hcode hlen om om om) ?_
     rintro _ w ⟨⟨k39, rfl, r7, r8⟩, hK⟩
     refine vl (ad rfl rfl) <| vl (rm rfl rfl) <| vl (mI rfl) <| ?_
     have hpj : Pt ((rs[m1].1 + 1 + k39) % 64) := ⟨by omega, by omega⟩
     refine cl call135 rfl (specRingJoin_c hK hv) ?_
     rintro _ w ⟨G1, hG1, ⟨v1, rs1, rfl, hv1, hr1⟩, hK⟩
     refine vl mv <| vl (ext rfl rfl) <| vl (ext rfl rfl) <| vl asg <| nl <| bkn <| ctn <| ?_
     exact ⟨(G1, v1, rs1, _), ⟨rfl, trivial⟩, hG1, hv1, by rw [hr1]; exact tk_safe hsf ⟨hpj, hp1⟩ (fun _ h => joinR_safe hsf hpj h), ⟨by simp only; omega, by simp only; omega⟩, hK⟩
    ·exact absurd c0_0 d0_0
   ·refine rg <| ?_
    refine vl (eq rfl rfl) <| vl (aB rfl) <| nl <| thn <| ?_
    refine cdP rfl (fun c0_1 => ?_) fun c0_1 => ?_
    ·refine rg <| ?_
     refine vl mv <| vl (mI rfl) <| vl (ad rfl rfl) <| vl mv <| ?_
     refine cl call32 rfl (pickN_c hK hcode hlen om om om) ?_
     rintro _ w ⟨⟨k39, rfl, r7, r8⟩, hK⟩
     refine vl (ad rfl rfl) <| vl (rm rfl rfl) <| vl (mI rfl) <| ?_
     have hpj : Pt ((rs[m1].1 + 1 + k39) % 64) := ⟨by omega, by omega⟩
     refine cl call135 rfl (specRingJoin_c hK hv) ?_
     rintro _ w ⟨G1, hG1, ⟨v1, rs1, rfl, hv1, hr1⟩, hK⟩
     refine vl mv <| vl (ext rfl rfl) <| vl (ext rfl rfl) <| vl asg <| nl <| bkn <| ctn <| ?_
     exact ⟨(G1, v1, rs1, _), ⟨rfl, trivial⟩, hG1, hv1, by rw [hr1]; exact tk_safe hsf ⟨hpj, hp1⟩ (fun _ h => joinR_safe hsf hpj h), ⟨by simp only; omega, by simp only; omega⟩, hK⟩
    ·refine sq <| sq <| rg <| ?_
     refine vl (eq rfl rfl) <| vl (aB rfl) <| nl <| thn <| ?_
     refine cdP rfl (fun c1_0 => ?_) fun c1_0 => ?_
     ·refine sk <| thn <| ?_
      refine cdP rfl (fun d1_0 => ?_) fun d1_0 => ?_
      ·refine rg <| ?_
       refine vl mv <| vl (mI rfl) <| ?_
       refine cl call136 rfl (specRingFail_c hK hv) ?_
       rintro _ w ⟨G1, hG1, ⟨v1, rs1, rfl, hv1, hr1⟩, hK⟩
       refine vl mv <| vl (ext rfl rfl) <| vl (ext rfl rfl) <| vl asg <| nl <| bkn <| ctn <| ?_
       exact ⟨(G1, v1, rs1, _), ⟨rfl, trivial⟩, hG1, hv1, by rw [hr1]; exact tk_safe hsf hp1 (fun _ h => failR_safe h), ⟨by simp only; omega, by simp only; omega⟩, hK⟩
      ·exact absurd c1_0 d1_0
     ·refine sq <| rg <| ?_
      refine vl (eq rfl rfl) <| vl (aB rfl) <| nl <| thn <| ?_
      refine cdP rfl (fun c1_1 => ?_) fun c1_1 => ?_
      ·refine sk <| thn <| ?_
       refine cdP rfl (fun d1_1 => ?_) fun d1_1 => ?_
       ·refine rg <| ?_
        refine vl mv <| vl (mI rfl) <| ?_
        refine cl call136 rfl (specRingFail_c hK hv) ?_
        rintro _ w ⟨G1, hG1, ⟨v1, rs1, rfl, hv1, hr1⟩, hK⟩
        refine vl mv <| vl (ext rfl rfl) <| vl (ext rfl rfl) <| vl asg <| nl <| bkn <| ctn <| ?_
        exact ⟨(G1, v1, rs1, _), ⟨rfl, trivial⟩, hG1, hv1, by rw [hr1]; exact tk_safe hsf hp1 (fun _ h => failR_safe h), ⟨by simp only; omega, by simp only; omega⟩, hK⟩
       ·exact absurd c1_1 d1_1
      ·refine rg <| ?_
       refine vl (eq rfl rfl) <| vl (aB rfl) <| nl <| thn <| ?_
       refine cdP rfl (fun c1_2 => ?_) fun c1_2 => ?_
       ·refine rg <| ?_
        refine vl mv <| vl (mI rfl) <| ?_
        refine cl call136 rfl (specRingFail_c hK hv) ?_
        rintro _ w ⟨G1, hG1, ⟨v1, rs1, rfl, hv1, hr1⟩, hK⟩
        refine vl mv <| vl (ext rfl rfl) <| vl (ext rfl rfl) <| vl asg <| nl <| bkn <| ctn <| ?_
        exact ⟨(G1, v1, rs1, _), ⟨rfl, trivial⟩, hG1, hv1, by rw [hr1]; exact tk_safe hsf hp1 (fun _ h => failR_safe h), ⟨by simp only; omega, by simp only; omega⟩, hK⟩
       ·refine sq <| rg <| ?_
        refine vl (eq rfl rfl) <| vl (aB rfl) <| nl <| thn <| ?_
        refine cdP rfl (fun c2_0 => ?_) fun c2_0 => ?_
        ·refine rg <| ?_
         refine vl mv <| vl (mI rfl) <| ?_
         refine cl call137 rfl (specRingDrop_c hK hv) ?_
         rintro _ w ⟨G1, hG1, ⟨v1, rs1, rfl, hv1, hr1⟩, hK⟩
         refine vl mv <| vl (ext rfl rfl) <| vl (ext rfl rfl) <| vl asg <| nl <| bkn <| ctn <| ?_
         exact ⟨(G1, v1, rs1, _), ⟨rfl, trivial⟩, hG1, hv1, by rw [hr1]; exact tk_safe hsf hp1 (fun _ h => dropR_safe hsf h), ⟨by simp only; omega, by simp only; omega⟩, hK⟩
        ·refine sq <| rg <| ?_
         refine vl (eq rfl rfl) <| vl (aB rfl) <| nl <| thn <| ?_
         refine cdP rfl (fun c3_0 => ?_) fun c3_0 => ?_
         ·refine rg <| ?_
          refine vl mv <| vl (mI rfl) <| ?_
          refine cl call138 rfl (specRingAdopt_c hK hv) ?_
          rintro _ w ⟨G1, hG1, ⟨v1, rs1, rfl, hv1, hr1⟩, hK⟩
          refine vl mv <| vl (ext rfl rfl) <| vl (ext rfl rfl) <| vl asg <| nl <| bkn <| ctn <| ?_
          exact ⟨(G1, v1, rs1, _), ⟨rfl, trivial⟩, hG1, hv1, by rw [hr1]; exact tk_safe hsf hp1 (fun _ h => adoptR_safe hsf h), ⟨by simp only; omega, by simp only; omega⟩, hK⟩
         ·refine sq <| rg <| ?_
          refine vl (eq rfl rfl) <| vl (aB rfl) <| nl <| thn <| ?_
          refine cdP rfl (fun c4_0 => ?_) fun c4_0 => ?_
          ·refine rg <| ?_
           refine vl mv <| vl (mI rfl) <| vl (mI rfl) <| ?_
           refine cl call139 rfl (specRingCloser_c hK hv) ?_
           rintro _ w ⟨G1, hG1, ⟨v1, rs1, rfl, hv1, hr1⟩, hK⟩
           refine vl mv <| vl (ext rfl rfl) <| vl (ext rfl rfl) <| vl asg <| nl <| bkn <| ctn <| ?_
           exact ⟨(G1, v1, rs1, _), ⟨rfl, trivial⟩, hG1, hv1, by rw [hr1]; exact tk_safe hsf ⟨hp1, hp2⟩ (fun _ h => closerR_safe hsf h), ⟨by simp only; omega, by simp only; omega⟩, hK⟩
          ·refine sq <| rg <| ?_
           refine vl (eq rfl rfl) <| vl (aB rfl) <| nl <| thn <| ?_
           refine cdP rfl (fun c5_0 => ?_) fun c5_0 => ?_
           ·refine rg <| ?_
            refine vl mv <| vl (mI rfl) <| vl (mI rfl) <| ?_
            refine cl call140 rfl (specRingNotify_c hK hv) ?_
            rintro _ w ⟨G1, hG1, ⟨v1, rs1, rfl, hv1, hr1⟩, hK⟩
            refine vl mv <| vl (ext rfl rfl) <| vl (ext rfl rfl) <| vl asg <| nl <| bkn <| ctn <| ?_
            exact ⟨(G1, v1, rs1, _), ⟨rfl, trivial⟩, hG1, hv1, by rw [hr1]; exact tk_safe hsf ⟨hp1, hp2⟩ (fun _ h => notifyR_safe hsf h), ⟨by simp only; omega, by simp only; omega⟩, hK⟩
           ·refine sq <| rg <| ?_
            refine vl (eq rfl rfl) <| vl (aB rfl) <| nl <| thn <| ?_
            refine cdP rfl (fun c6_0 => ?_) fun c6_0 => ?_
            ·refine rg <| ?_
             refine vl mv <| vl (mI rfl) <| ?_
             refine cl call189 rfl (specRingStabilize_c hK hv) ?_
             rintro _ w ⟨G1, hG1, ⟨v1, rs1, rfl, hv1, hr1⟩, hK⟩
             refine vl mv <| vl (ext rfl rfl) <| vl (ext rfl rfl) <| vl asg <| nl <| bkn <| ctn <| ?_
             exact ⟨(G1, v1, rs1, _), ⟨rfl, trivial⟩, hG1, hv1, by rw [hr1]; exact tk_safe hsf hp1 (fun _ h => stR_safe hsf h), ⟨by simp only; omega, by simp only; omega⟩, hK⟩
            ·refine sk <| bkn <| ctn <| ?_
             exact ⟨(G, v, rs, _), ⟨rfl, trivial⟩, VLe.refl _, hv, hsf, ⟨by simp only; omega, by simp only; omega⟩, hK⟩
  ·rintro ⟨G1, v1, rs1, q⟩ g w ⟨hG1, hv1, hs1, ⟨q1, q2⟩, hK⟩
   simp only at hG1 hv1 hs1 q1 q2 hK
   refine thn <| sq <| rg <| ?_
   refine vl mv <| vl asg <| nl <| thn <| rt <| p1r (a := _) rfl <| ?_
   exact ⟨G1, rs1, q, hG1, hv1, hs1, q1, q2, hK⟩
theorem l91Ring_c (hK : K e w G ((rb, row [cva, .int .i64 p] 98) :: L)) (hcode : BytS G cva code) (hlen : code.length ≤ 2000) (h0 : 0 ≤ p) (h1 : p ≤ 700000000) :
  Ret prog 117 #[.pointer (some ⟨rb, 0, none⟩)] w (fun r w' => ∃ G' rs p', VLe G G' ∧ RngS G' r rs ∧ RgSafe (rgl rs) ∧ p ≤ p' ∧ p' ≤ p + 500 ∧ K e w' G' ((rb, row [cva, .int .i64 p'] 98) :: L)) := by
 refine enter1 (args := [.pointer (some ⟨rb, 0, none⟩)]) func117 rfl rfl rfl rfl ?_
 refine sq <| rg <| ?_
 refine vl asg <| nl <| thn <| sq <| rg <| vl mv <| ?_
 refine cl call51 rfl (l91Good_c hK hcode hlen h0 om om om) ?_
 rintro v w ⟨G1, xs, A, p1, hG1, ho, has, hl1, hl2, hp1, hp2, hK⟩
 obtain ⟨G2, hG2, hx, hK⟩ := K.pubO (K.mid (A := [_]) (B := A) hK) ho
 refine cl call100 rfl (specRingNew_c hK hx) ?_
 rintro _ w ⟨G3, v, rs, b, rfl, hG3, hv, hb, hwd, hK⟩
 have hbt : b = true := hb.2 ⟨⟨⟨by omega, by omega⟩, has⟩, by omega⟩
 subst hbt
 rw [if_pos rfl] at hwd
 have hsf : RgSafe (rgl rs) := by rw [hwd]; exact idl_safe ⟨⟨by omega, by omega⟩, has⟩ (by omega)
 have hG := (hG1.trans hG2).trans hG3
 replace hcode := hcode.mono hG
 clear hwd
 refine vl mv <| vl (ext rfl rfl) <| vl (ext rfl rfl) <| vl asg <| vl (aB rfl) <| nl <| thn <| sq <| sq <| rg <| vl (aI rfl) <| nl <| thn <| bk <| ?_
 refine lp (σ := Nat × View × Value × List Rn × Int) (fun s => [(0, .pointer (some ⟨rb, 0, none⟩)), (3, s.2.2.1), (5, .int .i64 (s.1 : Int))]) (fun s w => s.1 ≤ 24 ∧ VLe G3 s.2.1 ∧ RngS s.2.1 s.2.2.1 s.2.2.2.1 ∧ RgSafe (rgl s.2.2.2.1) ∧ (p ≤ s.2.2.2.2 ∧ s.2.2.2.2 ≤ p + 20 + 11 * s.1) ∧ K e w s.2.1 ((rb, row [cva, .int .i64 s.2.2.2.2] 98) :: L)) (fun s => 24 - s.1) (0, G3, v, rs, p1) ⟨rfl, rfl, rfl, trivial⟩ ⟨Nat.zero_le _, VLe.refl _, hv, hsf, ⟨hp1, by simp only; omega⟩, hK⟩ ?_
 clear hv hsf hK
 rintro ⟨i, G4, v, rs, q⟩ g w ⟨hi, hG4, hv, hsf, ⟨q1, q2⟩, hK⟩
 simp only at hi hG4 hv hsf q1 q2 hK
 replace hcode := hcode.mono hG4
 refine sq <| sq <| rg <| ?_
 refine vl (mI rfl) <| vl mv <| ?_
 refine cl call32 rfl (pickN_c hK hcode hlen om om om) ?_
 rintro _ w ⟨⟨k14, rfl, hk14, hkn14⟩, hK⟩
 refine vl (lt rfl rfl) <| nl <| thn <| ?_
 refine cdP rfl (fun hc => ?_) fun hc => ?_
 ·refine sk <| thn <| sq <| bk <| rg <| ?_
  refine vl mv <| vl mv <| ?_
  refine cl call152 rfl (l91Step_c hK hcode hlen om om hv hsf) ?_
  rintro v2 w ⟨G5, rs2, p2, hG5, hv2, hs2, r1, r2, hK⟩
  refine vl asg <| nl <| bkn <| thn <| rg <| vl (mI rfl) <| vl (ad rfl rfl) <| vl (aI rfl) <| nl <| thn <| ?_
  exact ⟨(i + 1, G5, v2, rs2, p2), ⟨rfl, rfl, rfl, trivial⟩, ⟨by simp only at *; omega, hG4.trans hG5, hv2, hs2, ⟨by simp only at *; omega, by simp only at *; omega⟩, hK⟩, by simp only at *; omega⟩
 ·refine ex <| the <| the <| bkh <| thn <| sq <| rg <| ?_
  refine vl mv <| vl asg <| nl <| thn <| rt <| p1r (a := _) rfl <| ?_
  exact ⟨G4, rs, _, hG.trans hG4, hv, hsf, by simp only at *; omega, by simp only at *; omega, hK⟩
end
end Go.Proofs.YtmfolinemnlnbaaGreatDoor
