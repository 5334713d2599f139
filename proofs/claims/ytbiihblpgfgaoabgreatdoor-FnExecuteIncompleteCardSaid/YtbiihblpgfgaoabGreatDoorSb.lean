/- The library's lock, under this program's numbers. The program's guarded events. The program's events of worlds. The program's repair of a ring: by one node, by all, until nothing changes. Conditions: those that each row states. -/
import Derived.Test.YtbiihblpgfgaoabGreatDoorWp
import Derived.Test.YtbiihblpgfgaoabGreatDoorPlM
import Derived.Conc.MuLone
import Derived.KernelRfl
import Derived.Test.YtbiihblpgfgaoabGreatDoorWa
import Derived.Test.YtbiihblpgfgaoabGreatDoorDw
import Derived.Test.YtbiihblpgfgaoabGreatDoorOx
namespace Go.Proofs.YtbiihblpgfgaoabGreatDoor
open Go Go.Ro Tryz
abbrev muL : Go.Conc.Locks.MuLink := { lock := 136, unlock := 137, ilock := 174, iunlock := 175, lockSlow := 207, unlockSlow := 210, disable := 203, enable := 205, acquire := 206, relMerge := 208, cas32 := 204, add32 := 209, tMutex := 109, tIMutex := 107, tPMutex := 173, tPIMutex := 187, tPI32 := 189, tUP := 119, tNoCopy := 104, tU32 := 105 }
theorem muLib : Go.Conc.Locks.MuLib prog muL :=
 ⟨func136, func137, func174, func175, func203, func205, func206, func208, func204, func209,
  underlying107, fun w => by kernel_rfl, fun w => by kernel_rfl, fun w => by kernel_rfl, fun w => by kernel_rfl,
  underlying109, fun w => by kernel_rfl, fun w => by kernel_rfl, fun w => by kernel_rfl, fun w => by kernel_rfl,
  underlying173, fun w => by kernel_rfl, fun w => by kernel_rfl, fun w => by kernel_rfl, fun w => by kernel_rfl,
  underlying187, fun w => by kernel_rfl, fun w => by kernel_rfl, fun w => by kernel_rfl, fun w => by kernel_rfl,
  underlying189, fun w => by kernel_rfl, fun w => by kernel_rfl, fun w => by kernel_rfl, fun w => by kernel_rfl,
  underlying119, fun w => by kernel_rfl, fun w => by kernel_rfl, fun w => by kernel_rfl, fun w => by kernel_rfl,
  underlying104, fun w => by kernel_rfl, fun w => by kernel_rfl, fun w => by kernel_rfl, fun w => by kernel_rfl,
  underlying21, fun w => by kernel_rfl, fun w => by kernel_rfl, fun w => by kernel_rfl, fun w => by kernel_rfl,
  by kernel_rfl⟩
open Go Go.Ro Go.MuLone Tryz
section
variable {e w : World} {G : View} {L A AI AS : Own} {v u m0 m1 : Value} {rs qs : List Rn} {W W' : Wv} {wd wd' : Wd} {a b c k kd : Int} {gk : Nat} {a0 a1 : Addr} {l : List Value}
theorem lockR (hK : K e w G ((gk, row (.int .i32 0 :: l) 111) :: L)) : Ret prog 136 #[.pointer (some ⟨gk, 0, none⟩)] w (fun r w' => r = .tuple #[] ∧ K e w' G ((gk, row (.int .i32 1 :: l) 111) :: L)) := by
 have hb := hK.own gk _ (List.mem_cons_self ..)
 refine (lock_free muLib ⟨gk, 0, none⟩ w (by simp [World.cell?, hb, row]) (by simp [World.frozen?, hb, row])).mono ?_
 rintro e w' ⟨rfl, rfl⟩
 exact ⟨_, rfl, rfl, K.set0 hK⟩
theorem do_c (hE : ErrS 252 6 7 G a0 a1) (h : WdO G lc 51 3 W wd rs AI AS) (hok : WdOk wd) (hK : K e w G ((gk, row (.int .i32 0 :: m1 :: wc W) 111) :: (AI ++ (AS ++ L)))) :
  Ret prog 83 #[.pointer (some ⟨gk, 0, none⟩), .agg (ec kd a b c).toArray] w (fun r w' => r = .tuple #[] ∧ ∃ G' W' rs' AI' AS', VLe G G' ∧ WdO G' lc 51 3 W' (doW wd kd a b c) rs' AI' AS' ∧ K e w' G' ((gk, row (.int .i32 0 :: m1 :: wc W') 111) :: (AI' ++ (AS' ++ L)))) := by
 refine enterDf (n := Tryz.f83.ntmps) (args := [.pointer (some ⟨gk, 0, none⟩), .agg (ec kd a b c).toArray]) func83 rfl rfl rfl ?_
 refine sqA (rg ?_)
 refine bx hK rfl rfl ?_
 intro b3 w hK
 refine nl ⟨rfl, ?_⟩
 refine sqA (rg ?_)
 refine vl mv <| vl (nc rfl) <| vl (fa underlying111 rfl Ty.z109 rfl) <| ?_
 refine cl call136 rfl (lockR hK.swp) ?_
 rintro _ w ⟨rfl, hK⟩
 refine nl ⟨rfl, ?_⟩
 refine wp_seq (wp_region_lit ?_)
 refine valA rfl mv <| valA rfl (nc rfl) <| valA rfl (fa underlying111 rfl Ty.z109 rfl) <| dfA rfl ?_
 replace hK : K e w G ((b3, row (ec kd a b c) 78) :: (gk, row (.int .i32 1 :: m1 :: wc W) 111) :: (AI ++ (AS ++ L))) := hK.swp
 refine rgxD (Q3 := fun _ _ w => ∃ G' W' rs' AI' AS', VLe G G' ∧ WdO G' lc 51 3 W' (doW wd kd a b c) rs' AI' AS' ∧ K e w G' ((gk, row (.int .i32 1 :: m1 :: wc W') 111) :: (AI' ++ (AS' ++ ((b3, row (ec kd a b c) 78) :: L))))) (fun w => K e w G ((b3, row (ec kd a b c) 78) :: L)) [U,U,U,U,U] Ty.mixed rfl rfl (C := fun w => K e w G ((b3, row (ec kd a b c) 78) :: (gk, row (.int .i32 1 :: m1 :: wc W) 111) :: (AI ++ (AS ++ L)))) (hK.drawn _) ?_ ?_
 ·intro w hK
  have hS : (fun w => K e w G ((b3, row (ec kd a b c) 78) :: L)) w := K.sl hK
  refine xt (i := 0) rfl kr rfl rfl (fun w hK => mv) hS <| ?_
  refine xt (i := 1) rfl kr rfl rfl (fun w hK => (nc rfl)) hS <| ?_
  refine xt (i := 2) rfl kr rfl rfl (fun w hK => (fa underlying111 rfl Ty.z39 rfl)) hS <| ?_
  refine xt (i := 3) rfl kr rfl rfl (fun w hK => (lsO hK Ty.a78 Ty.s78 0 rfl rfl rfl)) hS <| ?_
  refine xe (i := 4) kr rfl rfl ?_
  have hK1 : K e w G ((gk, row (.int .i32 1 :: m1 :: wc W) 111) :: (AI ++ (AS ++ ((b3, row (ec kd a b c) 78) :: L)))) := hK.reo
  refine cl call138 rfl (apply_c hE h hok hK1) ?_
  rintro _ w ⟨rfl, G1, W1, q1, AI1, AS1, hG1, hW1, hK⟩
  have hS2 : K e w G ((b3, row (ec kd a b c) 78) :: L) := K.vle (K.sl hK) hG1
  refine xn (fun w => K e w G ((b3, row (ec kd a b c) 78) :: L)) hS2 (fun _ h => h) ?_
  exact xd kr ⟨G1, W1, q1, AI1, AS1, hG1, hW1, hK⟩
 ·rintro g w ⟨G1, W1, q1, AI1, AS1, hG1, hW1, hK⟩
  have hb := hK.own gk _ (List.mem_cons_self ..)
  refine leaves_cons (f := 137) (args := #[.pointer (some ⟨gk, 0, none⟩)]) (by simp) (call137 _ _) ?_
  refine (unlock_deferred muLib ⟨gk, 0, none⟩ .returning w (by simp [World.cell?, hb, row]) (by simp [World.frozen?, hb, row])).mono ?_
  rintro e u' w' ⟨rfl, rfl, rfl⟩
  exact ⟨_, results_none rfl _ _ _, _, rfl, rfl, G1, W1, q1, AI1, AS1, hG1, hW1, outB (K.set0 hK)⟩
end
open Go Go.Ro Tryz
section
variable {e w : World} {G : View} {L A AI AS : Own} {v u m0 m1 : Value} {rs qs : List Rn} {W W' : Wv} {wd wd' : Wd} {a b c k kd : Int} {gk : Nat} {a0 a1 : Addr} {l : List Value}
set_option maxHeartbeats 1000000 in
theorem implWorldDo_c (hE : ErrS 252 6 7 G a0 a1) (hK : K e w G L) (hW : WdS G lc W wd rs) (hzl : wd.items.length ≤ 1000000) :
  Ret prog 54 #[.agg (wc W).toArray, .agg (ec kd a b c).toArray] w (fun r w' => ∃ G' W' rs', VLe G G' ∧ r = .agg (wc W').toArray ∧ WdS G' lc W' (wdF wd kd a b c) rs' ∧ K e w' G' L) := by
 refine enterG1 (args := [.agg (wc W).toArray, .agg (ec kd a b c).toArray]) func54 rfl rfl rfl rfl ?_
 refine sq <| rg <| ?_
 refine bx hK rfl rfl ?_
 intro b2 w hK
 refine bx hK rfl rfl ?_
 intro b3 w hK
 refine al hK Ty.i39 rfl ?_
 intro b4 w hK
 refine nl <| thn <| sq <| sq <| rg <| vl (lsO hK Ty.a39 Ty.s39 2 rfl rfl rfl) <| ?_
 refine cl call78 rfl (implWorldValid_c hK hW om) ?_
 rintro _ w ⟨rfl, hK⟩
 refine vl (ntB rfl) <| nl <| thn <| ?_
 refine cdB rfl (fun h1 => ?_) fun h1 => ?_
 ·have h1' := not_dec (Eq.mp (Bool.not_eq_true' _) h1)
  refine sq <| rg <| ?_
  refine vl (bd [] Ty.p39 Ty.i39 rfl trivial rfl) <| ?_
  refine soS hK Ty.i39 0 rfl rfl rfl rfl (by rfl) rfl ?_
  intro w hK
  refine nl <| thn <| rt <| thr <| pg1r (rvS hK Ty.a39 Ty.s39 0 rfl rfl rfl) <| ?_
  exact ⟨G, ⟨0, .slice none 0 0, .slice none 0 0, .slice none 0 0, 0, .slice none 0 0, .slice none 0 0⟩, [], VLe.refl _, rfl, by rw [wdF_no h1']; exact ⟨rfl, ⟨nil_row, fun _ h => (nomatch h)⟩, rfl, nil_row, nil_row, rfl, nil_row, nil_row⟩, hK.drop1.drop1.drop1⟩
 ·have hd := of_dec (Eq.mp (Bool.not_eq_false' _) h1)
  refine sk <| thn <| sq <| rg <| ?_
  refine vl (lsO hK Ty.a39 Ty.s39 2 rfl rfl rfl) <| ?_
  refine cl call79 rfl (copyWorld_c hK hW hd.2.1.1 (by have := hd.2.2.1.1; omega) (by have := hd.wda.zl; omega) (by have := hd.2.2.2.2.1.2.1.len; omega) (by have := hd.2.2.2.2.2.1.len; omega)) ?_
  rintro _ w ⟨G1, W1, q1, AI, AS, hG1, rfl, hW1, hK⟩
  replace hK : K _ _ _ ((b4, row [.int .i64 0, .slice none 0 0, .slice none 0 0, .slice none 0 0, .int .i64 0, .slice none 0 0, .slice none 0 0] 39) :: (b3, row (ec kd a b c) 78) :: (b2, row (wc W) 39) :: (AI ++ (AS ++ L))) := hK.reo
  refine vl (bd [(1, _)] Ty.p111 Ty.i111 rfl ⟨⟨rfl, rfl⟩, trivial⟩ rfl) <| ?_
  refine bx hK rfl rfl ?_
  intro b13 w hK
  refine vl asg <| nl <| thn <| sq <| rg <| vl mv <| vl (lsO hK Ty.a78 Ty.s78 2 rfl rfl rfl) <| ?_
  replace hK : K e w G1 ((b13, row (.int .i32 0 :: .int .u32 0 :: wc W1) 111) :: (b4, row [.int .i64 0, .slice none 0 0, .slice none 0 0, .slice none 0 0, .int .i64 0, .slice none 0 0, .slice none 0 0] 39) :: (b3, row (ec kd a b c) 78) :: (b2, row (wc W) 39) :: (AI ++ (AS ++ L))) := hK
  replace hK : K _ _ _ ((b13, row (.int .i32 0 :: .int .u32 0 :: wc W1) 111) :: (AI ++ (AS ++ ((b4, row [.int .i64 0, .slice none 0 0, .slice none 0 0, .slice none 0 0, .int .i64 0, .slice none 0 0, .slice none 0 0] 39) :: (b3, row (ec kd a b c) 78) :: (b2, row (wc W) 39) :: L)))) := hK.reo
  refine cl call83 rfl (do_c (hE.mono hG1) hW1 hd hK) ?_
  rintro _ w ⟨rfl, G2, W2, q2, AI2, AS2, hG2, hW2, hK⟩
  replace hK : K _ _ _ ((b13, row (.int .i32 0 :: .int .u32 0 :: wc W2) 111) :: (b4, row [.int .i64 0, .slice none 0 0, .slice none 0 0, .slice none 0 0, .int .i64 0, .slice none 0 0, .slice none 0 0] 39) :: (b3, row (ec kd a b c) 78) :: (b2, row (wc W) 39) :: (AI2 ++ (AS2 ++ L))) := hK.reo
  refine nl <| thn <| sq <| rg <| vl mv <| vl (nc rfl) <| vl (fa underlying111 rfl Ty.z39 rfl) <| vl (lsP (u := wc W2) hK Ty.a39 Ty.s39 0 rfl rfl rfl rfl) <| ?_
  refine soS hK Ty.i39 1 rfl rfl rfl rfl (WdO.one hW2) rfl ?_
  intro w hK
  refine nl <| thn <| rt <| pg1r (rvS hK Ty.a39 Ty.s39 1 rfl rfl rfl) <| ?_
  have hK2 : K e w G2 ([(b13, row (.int .i32 0 :: .int .u32 0 :: wc W2) 111), (b4, row (wc W2) 39), (b3, row (ec kd a b c) 78), (b2, row (wc W) 39)] ++ (AI2 ++ (AS2 ++ L))) := hK
  obtain ⟨G3, hG3, hW3, hK3⟩ := hW2.pub hK2.dropL
  exact ⟨G3, W2, q2, (hG1.trans hG2).trans hG3, rfl, by rw [wdF_yes hd]; exact hW3, hK3⟩
end
open Go Go.Ro Tryz
section
variable {e w : World} {G : View} {L A : Own} {v u : Value} {rs qs : List Rn} {id other k : Int} {i j : Nat}
theorem try_c {t b6 : Nat} {x : Value} {bb : Bool} (h1 : one x = true) (hK : K e w G ((b6, row [v] t) :: L)) :
  Ret prog 196 #[x, .bool bb, .pointer (some ⟨b6, 0, none⟩)] w (fun r w' => r = .bool bb ∧ K e w' G ((b6, row [if bb then x else v] t) :: L)) := by
 refine enter1 (args := [x, .bool bb, .pointer (some ⟨b6, 0, none⟩)]) func196 rfl rfl rfl rfl ?_
 refine sq <| rg <| ?_
 refine vl (aB rfl) <| nl <| thn <| sq <| sq <| rg <| vl (mB rfl) <| nl <| thn <| ?_
 refine cdB rfl (fun hc => ?_) fun hc => ?_
 ·subst hc
  refine rg <| ?_
  refine vl mv <| ?_
  refine so hK Ty.i32 rfl 0 rfl rfl rfl h1 rfl ?_
  intro w hK
  refine nl <| thn <| sq <| rg <| vl (mB rfl) <| vl (aB rfl) <| nl <| thn <| rt <| p1r (a := .bool _) rfl <| ?_
  exact ⟨rfl, hK⟩
 ·subst hc
  refine sk <| thn <| sq <| rg <| ?_
  refine vl (mB rfl) <| vl (aB rfl) <| nl <| thn <| rt <| p1r (a := .bool _) rfl <| ?_
  exact ⟨rfl, hK⟩
theorem try_ring {rs' : List Rn} {v' : Value} {o : Option (List Nd)} {bb : Bool} (h : RngS G v rs) (h' : RngS G v' rs') (hb : bb = o.isSome) (hr : rgl rs' = o.getD (rgl rs)) : ∃ x xs, (if bb then v' else v) = x ∧ RngS G x xs ∧ rgl xs = o.getD (rgl rs) := by
 cases o with
 | none => subst hb; exact ⟨v, rs, if_neg (by simp), h, rfl⟩
 | some y => subst hb; exact ⟨v', rs', if_pos rfl, h', hr⟩
set_option maxHeartbeats 1000000 in
theorem implStabilize_c (hK : K e w G L) (hv : RngS G v rs) (hsf : RgSafe (rgl rs)) (hid : id ∈ ids (rgl rs)) :
  Ret prog 169 #[v, .int .i64 id] w (fun r w' => ∃ G' v' rs', VLe G G' ∧ r = .tuple #[v', .bool true] ∧ RngS G' v' rs' ∧ rgl rs' = stabR (rgl rs) id ∧ K e w' G' L) := by
 have hpt := hsf.1.ptId hid
 refine enter2 (args := [v, .int .i64 id]) func169 rfl rfl rfl rfl ?_
 refine sq <| rg <| ?_
 refine vl asg <| vl (aB rfl) <| nl <| thn <| sq <| sq <| rg <| vl mv <| ?_
 refine cl call121 rfl (implRingSafe_c hK hv) ?_
 rintro _ w ⟨rfl, hK⟩
 refine vl (ntB rfl) <| vl (mB rfl) <| ?_
 refine spl (t := 12) rfl (fun h1 => ?_) fun h1 => ?_
 ·exact absurd hsf (not_dec (Eq.mp (Bool.not_eq_true' _) h1))
 ·refine gy rfl <| vl (mI rfl) <| gy rfl <| ?_
  refine cl call113 rfl (posok_c (C := fun w => K _ w _ _) hK) ?_
  rintro _ w ⟨rfl, hK⟩
  refine gy rfl <| vl (ntB rfl) <| vl (pk rfl) <| nl <| thn <| ?_
  refine cdB rfl (fun h2 => ?_) fun h2 => ?_
  ·exact absurd hpt (of_decide_eq_false (Eq.mp (Bool.not_eq_true' _) h2))
  ·refine sk <| thn <| sq <| rg <| ?_
   refine vl mv <| ?_
   refine cl call127 rfl (copyRing_v hK hv hsf.1) ?_
   rintro v1 w ⟨G1, rs1, hG1, hr1, hv1, hK⟩
   obtain ⟨m1, hm1⟩ := NdA.of hv1 (by rw [hr1]; exact hsf.1) (by rw [hr1]; exact hid)
   refine al hK Ty.i32 rfl ?_
   intro b6 w hK
   refine so hK Ty.i32 rfl 0 rfl rfl rfl hv1.sl.1.one rfl ?_
   intro w hK
   refine nl <| thn <| sq <| sq <| rg <| vl (ldO hK Ty.o32 0 rfl rfl rfl) <| vl (mI rfl) <| ?_
   refine cl call162 rfl (nodeAt_in hK hv1 hm1) ?_
   rintro _ w ⟨rfl, hK⟩
   refine vl (eqPn underlying167 rfl rfl) <| nl <| thn <| ?_
   refine cdB rfl (fun h3 => ?_) fun h3 => ?_
   ·cases h3
   ·refine sk <| thn <| sq <| rg <| ?_
    refine vl (mkf rfl) <| vl asg <| nl <| thn <| sq <| bk <| ?_
    refine lp (σ := Nat × View × Value × List Rn) (fun s => [(1, .int .i64 id), (6, .pointer (some ⟨b6, 0, none⟩)), (7, .func (.func 196) #[] #[.pointer (some ⟨b6, 0, none⟩)])]) (fun s w => s.1 ≤ 1 ∧ VLe G1 s.2.1 ∧ RngS s.2.1 s.2.2.1 s.2.2.2 ∧ ((s.1 = 1 ∧ rgl s.2.2.2 = rgl rs) ∨ (s.1 = 0 ∧ rgl s.2.2.2 = dr (rgl rs) id)) ∧ K e w s.2.1 ((b6, row [s.2.2.1] 32) :: L)) (fun s => s.1) (1, G1, v1, rs1) ⟨rfl, rfl, rfl, trivial⟩ ⟨Nat.le_refl _, VLe.refl _, hv1, .inl ⟨rfl, hr1⟩, hK⟩ ?_
    clear hv1 hK hm1
    rintro ⟨n, G2, v2, rs2⟩ g w ⟨hn, hG2, hv2, hr2, hK⟩
    simp only at hn hG2 hv2 hr2 hK
    have hs2 : RgSafe (rgl rs2) := by
     rcases hr2 with h | h
     ·rw [h.2]; exact hsf
     ·rw [h.2]; exact dr_safe hsf
    refine sq <| sq <| rg <| ?_
    refine vl mv <| vl (ldO hK Ty.o32 0 rfl rfl rfl) <| vl (mI rfl) <| ?_
    refine cl call197 rfl (implRingDrop_c hK hv2) ?_
    rintro _ w ⟨G3, hG3, hR3, hK⟩
    rw [tk_ot ⟨hs2, hpt⟩] at hR3
    obtain ⟨v3, rs3, rfl, hv3, hr3⟩ := hR3
    rw [ot_dr] at hr3
    refine vl (ext rfl rfl) <| vl (ext rfl rfl) <| ?_
    refine cf (cap := [.pointer (some ⟨b6, 0, none⟩)]) (call196) rfl rfl (try_c (x := v3) hv3.sl.1.one hK) ?_
    rintro _ w ⟨rfl, hK⟩
    refine nl <| thn <| ?_
    refine cdB rfl (fun h4 => ?_) fun h4 => ?_
    ·rw [if_pos h4] at hK
     rw [ot_b] at h4
     have hn1 : n = 1 ∧ rgl rs2 = rgl rs := by
      rcases hr2 with h | h
      ·exact h
      ·exfalso
       have hl := dr_live hsf hid
       rw [h.2, dropR_no (fun g => g.2 hl)] at h4
       cases h4
     refine sk <| thn <| bk <| sk <| bkn <| thn <| ?_
     exact ⟨(0, G3, v3, rs3), ⟨rfl, rfl, rfl, trivial⟩, ⟨Nat.zero_le _, hG2.trans hG3, hv3, .inr ⟨rfl, by rw [hr3, hn1.2]⟩, hK⟩, by simp only; omega⟩
    ·rw [if_neg (by rw [h4]; simp)] at hK
     rw [ot_b] at h4
     have hno : dropR (rgl rs2) id = none := by simpa using h4
     have hd : rgl rs2 = drN 2 (rgl rs) id := by
      rcases hr2 with h | h
      ·rw [h.2] at hno ⊢; exact (drN_fix (dr_none hno) 2).symm
      ·rw [h.2] at hno ⊢; exact (dr_none hno).symm
     have hi2 : ids (rgl rs2) = ids (rgl rs) := by rw [hd]; exact drN_ids 2 _
     have hid2 : id ∈ ids (rgl rs2) := by rw [hi2]; exact hid
     have ha2 : a0 (ndAt (rgl rs2) id) ∈ ids (rgl rs2) := by
      by_cases ha : a0 (ndAt (rgl rs2) id) ∈ ids (rgl rs2)
      ·exact ha
      ·rw [dropR_yes ⟨hid2, ha⟩] at hno; cases hno
     have hv2 := hv2.mono hG3
     refine ex <| the <| the <| bkh <| thn <| sq <| rg <| ?_
     refine vl mv <| vl (ldO hK Ty.o32 0 rfl rfl rfl) <| vl (mI rfl) <| ?_
     refine cl call198 rfl (implRingAdopt_c hK hv2) ?_
     rintro _ w ⟨G4, hG4, hR4, hK⟩
     rw [tk_ot ⟨hs2, hpt⟩] at hR4
     obtain ⟨v4, rs4, rfl, hv4, hr4⟩ := hR4
     rw [ot_1] at hr4
     replace hr4 : rgl rs4 = ad1 (rgl rs2) id := hr4
     refine vl (ext rfl rfl) <| vl (ext rfl rfl) <| ?_
     refine cf (cap := [.pointer (some ⟨b6, 0, none⟩)]) (call196) rfl rfl (try_c (x := v4) hv4.sl.1.one hK) ?_
     rintro _ w ⟨rfl, hK⟩
     rw [if_pos (show (ot (rgl rs2) (adoptR (rgl rs2) id)).2 = true by rw [ot_b, adoptR_yes ⟨hid2, ha2⟩]; rfl)] at hK
     have hs4 : RgSafe (rgl rs4) := by rw [hr4]; exact ad1_safe hs2
     have hi4 : ids (rgl rs4) = ids (rgl rs) := by rw [hr4, ad1_ids, hi2]
     have ha4 : a0 (ndAt (rgl rs4) id) ∈ ids (rgl rs4) := by rw [hi4, ← hi2, hr4]; exact ad1_live hid2 ha2
     obtain ⟨m, hm⟩ := NdA.of hv4 hs4.1 (by rw [hi4]; exact hid)
     obtain ⟨m', hm'⟩ := NdA.of hv4 hs4.1 ha4
     have hsl4 := hv4.sl
     have hx4 := hm.aft
     have hlt4 := hm.lt
     have hlen4 := hm.len
     have hlt4' := hm'.lt
     have hc4 : cellV G4 (elA rs4[m].2.2.1 0) = some (.int .i64 (a0 (ndAt (rgl rs4) id))) := by rw [← hm.ha0]; exact hx4.at _
     refine nl <| thn <| sq <| sq <| ?_
     refine rgs (fun w => K e w G4 ((b6, row [v4] 32) :: L)) (fun w => K _ w _ _) [U,U,U,U,U,U,U,U,U,U,U] 11 Ty.mixed rfl rfl (hK.drawn _) ?_
     intro w hK
     have hS : (fun w => K e w G4 ((b6, row [v4] 32) :: L)) w := K.sl hK
     refine xt (i := 0) rfl kr rfl rfl (fun w hK => (ldO hK Ty.o32 0 rfl rfl rfl)) hS <| xt (i := 1) rfl kr rfl rfl (fun w hK => (ldO hK Ty.o32 0 rfl rfl rfl)) hS <| xt (i := 2) rfl kr rfl rfl (fun w hK => (mI rfl)) hS <| ?_
     refine xe (i := 3) kr rfl rfl ?_
     refine cl call162 rfl (nodeAt_in hK hv4 hm) ?_
     rintro _ w ⟨rfl, hK⟩
     refine xnk (K.sl hK) fun hS => ?_
     refine xt (i := 4) rfl kr rfl rfl (fun w hK => (nc rfl)) hS <| xt (i := 5) rfl kr rfl rfl (fun w hK => (fe underlying84 rfl Ty.z35 rfl hsl4.1 om)) hS <| xt (i := 6) rfl kr rfl rfl (fun w hK => (ldV hK Ty.o35 rfl (by exact hsl4.cell om 2 rfl))) hS <| xt (i := 7) rfl kr rfl rfl (fun w hK => (ixn1 underlying35 Ty.s3 rfl hx4.1 rfl om)) hS <| xt (i := 8) rfl kr rfl rfl (fun w hK => (ldV hK Ty.o3 rfl hc4)) hS <| ?_
     refine xe (i := 9) kr rfl rfl ?_
     refine cl call162 rfl (nodeAt_in hK hv4 hm') ?_
     rintro _ w ⟨rfl, hK⟩
     refine xnk (K.sl hK) fun hS => ?_
     refine xt (i := 10) rfl kr rfl rfl (fun w hK => asg) hS <| xd kr <| thn <| sq <| rg <| vl mv <| vl (nePn underlying167 rfl rfl) <| vl (mB rfl) <| ?_
     refine spl (t := 51) rfl (fun h5 => ?_) fun h5 => ?_
     ·refine gy rfl <| vl mv <| gy rfl <| vl (nc rfl) <| gy rfl <| vl (fe underlying84 rfl Ty.z3 rfl hsl4.1 om) <| gy rfl <| vl (ldV hK Ty.o3 rfl (hsl4.cell om 1 rfl)) <| gy rfl <| vl (ne rfl rfl) <| vl (pk rfl) <| nl <| thn <| ?_
      refine ct (σ := View × Value × List Rn) (fun s => [(1, .int .i64 id), (6, .pointer (some ⟨b6, 0, none⟩)), (7, .func (.func 196) #[] #[.pointer (some ⟨b6, 0, none⟩)])]) (fun s w => VLe G4 s.1 ∧ RngS s.1 s.2.1 s.2.2 ∧ rgl s.2.2 = clo1 (rgl rs4) id ∧ K e w s.1 ((b6, row [s.2.1] 32) :: L)) ?_ ?_
      ·refine cdP rfl (fun h6 => ?_) fun h6 => ?_
       ·have hbn := hm'.bef
        have hbp : Pt rs4[m'].2.1 := by
         rcases (hs4.1.2.1 _ (ndAt_mem ha4)).2.1 with g | g
         ·rw [← hbn] at g; exact absurd g h6
         ·rw [← hbn] at g; exact g
        refine rgs (fun w => K e w G4 L) (fun w => K _ w _ _) [U,U,U,U,U,U,U,U,U,U,U] 11 Ty.mixed rfl rfl (hK.drawn _) ?_
        intro w hK
        have hS : (fun w => K e w G4 L) w := K.sl hK
        refine xt (i := 0) rfl kr rfl rfl (fun w hK => mv) hS <| xt (i := 2) rfl kr rfl rfl (fun w hK => (mI rfl)) hS <| xt (i := 3) rfl kr rfl rfl (fun w hK => mv) hS <| xt (i := 4) rfl kr rfl rfl (fun w hK => (nc rfl)) hS <| xt (i := 5) rfl kr rfl rfl (fun w hK => (fe underlying84 rfl Ty.z3 rfl hsl4.1 om)) hS <| xt (i := 6) rfl kr rfl rfl (fun w hK => (ldV hK Ty.o3 rfl (by exact hsl4.cell om 1 rfl))) hS <| ?_
        refine xe (i := 1) kr rfl rfl ?_
        refine vl (ldO hK Ty.o32 0 rfl rfl rfl) <| ?_
        refine xnk (K.sl hK) fun hS => ?_
        refine xe (i := 7) kr rfl rfl ?_
        refine cl call199 rfl (implRingCloser_c hK hv4) ?_
        rintro _ w ⟨G5, hG5, hR5, hK⟩
        rw [tk_ot ⟨hs4, hpt, hbp⟩] at hR5
        obtain ⟨v5, rs5, rfl, hv5, hr5⟩ := hR5
        rw [ot_1] at hr5
        refine xnk ((K.vle (K.sl hK) hG5)) fun hS => ?_
        refine xt (i := 8) rfl kr rfl rfl (fun w hK => (ext rfl rfl)) hS <| xt (i := 9) rfl kr rfl rfl (fun w hK => (ext rfl rfl)) hS <| ?_
        refine xe (i := 10) kr rfl rfl ?_
        refine cf (cap := [.pointer (some ⟨b6, 0, none⟩)]) (call196) rfl rfl (try_c (x := v5) hv5.sl.1.one hK) ?_
        rintro _ w ⟨rfl, hK⟩
        obtain ⟨v6, rs6, hv6e, hv6, hr6⟩ := try_ring (hv4.mono hG5) hv5 (ot_b (r := rgl rs4) (o := closerR (rgl rs4) id rs4[m'].2.1)) hr5
        rw [hv6e] at hK
        refine xnk ((K.vle (K.sl hK) hG5)) fun hS => ?_
        refine xd kr <| ctn <| ?_
        exact ⟨(G5, v6, rs6), ⟨rfl, rfl, rfl, trivial⟩, hG5, hv6, by unfold clo1; rw [← hbn, if_pos (by unfold Pt at hbp; omega)]; exact hr6, hK⟩
       ·have hbn := hm'.bef
        refine sk <| ctn <| ?_
        exact ⟨(G4, v4, rs4), ⟨rfl, rfl, rfl, trivial⟩, VLe.refl _, hv4, by unfold clo1; rw [← hbn, if_neg (by omega)], hK⟩
      ·rintro ⟨G5, v5, rs5⟩ g w ⟨hG5, hv5, hr5, hK⟩
       simp only at hG5 hv5 hr5 hK
       have hs5 : RgSafe (rgl rs5) := by rw [hr5]; exact clo1_safe hs4
       have hi5 : ids (rgl rs5) = ids (rgl rs) := by rw [hr5, clo1_ids, hi4]
       obtain ⟨m5, hm5⟩ := NdA.of hv5 hs5.1 (by rw [hi5]; exact hid)
       have hsl5 := hv5.sl
       have hx5 := hm5.aft
       have hlt5 := hm5.lt
       have hlen5 := hm5.len
       have hp5 := hm5.pa0
       have hc5 : cellV G5 (elA rs5[m5].2.2.1 0) = some (.int .i64 (a0 (ndAt (rgl rs5) id))) := by rw [← hm5.ha0]; exact hx5.at _
       refine thn <| sq <| ?_
       refine rgs (fun w => K e w G5 L) (fun w => K _ w _ _) [U,U,U,U,U,U,U,U,U,U,U,U,U,U,U] 15 Ty.mixed rfl rfl (hK.drawn _) ?_
       intro w hK
       have hS : (fun w => K e w G5 L) w := K.sl hK
       refine xt (i := 0) rfl kr rfl rfl (fun w hK => mv) hS <| xt (i := 3) rfl kr rfl rfl (fun w hK => (mI rfl)) hS <| xt (i := 10) rfl kr rfl rfl (fun w hK => (mI rfl)) hS <| ?_
       refine xe2 (i := 1) (j := 2) kr rfl rfl rfl rfl ?_ ?_
       ·refine vl (ldO hK Ty.o32 0 rfl rfl rfl) <| ?_
        refine xnk (K.sl hK) fun hS => ?_
        refine xe (i := 2) kr rfl rfl ?_
        refine vl (ldO hK Ty.o32 0 rfl rfl rfl) <| ?_
        refine xnk (K.sl hK) fun hS => ?_
        refine xe (i := 4) kr rfl rfl ?_
        refine cl call162 rfl (nodeAt_in hK hv5 hm5) ?_
        rintro _ w ⟨rfl, hK⟩
        refine xnk (K.sl hK) fun hS => ?_
        refine xt (i := 5) rfl kr rfl rfl (fun w hK => (nc rfl)) hS <| xt (i := 6) rfl kr rfl rfl (fun w hK => (fe underlying84 rfl Ty.z35 rfl hsl5.1 om)) hS <| xt (i := 7) rfl kr rfl rfl (fun w hK => (ldV hK Ty.o35 rfl (by exact hsl5.cell om 2 rfl))) hS <| xt (i := 8) rfl kr rfl rfl (fun w hK => (ixn1 underlying35 Ty.s3 rfl hx5.1 rfl om)) hS <| xt (i := 9) rfl kr rfl rfl (fun w hK => (ldV hK Ty.o3 rfl hc5)) hS <| ?_
        refine xe (i := 11) kr rfl rfl ?_
        refine cl call200 rfl (implRingNotify_c hK hv5) ?_
        rintro _ w ⟨G6, hG6, hR6, hK⟩
        rw [tk_ot ⟨hs5, hp5, hpt⟩] at hR6
        obtain ⟨v6, rs6, rfl, hv6, hr6⟩ := hR6
        rw [ot_1] at hr6
        refine xnk ((K.vle (K.sl hK) hG6)) fun hS => ?_
        refine xt (i := 12) rfl kr rfl rfl (fun w hK => (ext rfl rfl)) hS <| xt (i := 13) rfl kr rfl rfl (fun w hK => (ext rfl rfl)) hS <| ?_
        refine xe (i := 14) kr rfl rfl ?_
        refine cf (cap := [.pointer (some ⟨b6, 0, none⟩)]) (call196) rfl rfl (try_c (x := v6) hv6.sl.1.one hK) ?_
        rintro _ w ⟨rfl, hK⟩
        obtain ⟨v7, rs7, hv7e, hv7, hr7⟩ := try_ring (hv5.mono hG6) hv6 (ot_b (r := rgl rs5) (o := notifyR (rgl rs5) (a0 (ndAt (rgl rs5) id)) id)) hr6
        rw [hv7e] at hK
        refine xnk ((K.vle (K.sl hK) hG6)) fun hS => ?_
        refine xd kr <| thn <| sq <| rg <| vl (ldO hK Ty.o32 0 rfl rfl rfl) <| vl asg <| vl (aB rfl) <| nl <| thn <| rt <| p2r (a := _) (b := .bool _) rfl rfl <| ?_
        exact ⟨G6, v7, rs7, (((((hG1.trans hG2).trans hG3).trans hG4).trans hG5).trans hG6), rfl, hv7, by rw [hr7, hr5, hr4, hd]; rfl, hK.drop1⟩
       ·refine vl (ldO hK Ty.o32 0 rfl rfl rfl) <| ?_
        refine xnk (K.sl hK) fun hS => ?_
        refine xe2 (i := 1) (j := 4) kr rfl rfl rfl rfl ?_ ?_
        ·refine vl (ldO hK Ty.o32 0 rfl rfl rfl) <| ?_
         refine xnk (K.sl hK) fun hS => ?_
         refine xe (i := 4) kr rfl rfl ?_
         refine cl call162 rfl (nodeAt_in hK hv5 hm5) ?_
         rintro _ w ⟨rfl, hK⟩
         refine xnk (K.sl hK) fun hS => ?_
         refine xt (i := 5) rfl kr rfl rfl (fun w hK => (nc rfl)) hS <| xt (i := 6) rfl kr rfl rfl (fun w hK => (fe underlying84 rfl Ty.z35 rfl hsl5.1 om)) hS <| xt (i := 7) rfl kr rfl rfl (fun w hK => (ldV hK Ty.o35 rfl (by exact hsl5.cell om 2 rfl))) hS <| xt (i := 8) rfl kr rfl rfl (fun w hK => (ixn1 underlying35 Ty.s3 rfl hx5.1 rfl om)) hS <| xt (i := 9) rfl kr rfl rfl (fun w hK => (ldV hK Ty.o3 rfl hc5)) hS <| ?_
         refine xe (i := 11) kr rfl rfl ?_
         refine cl call200 rfl (implRingNotify_c hK hv5) ?_
         rintro _ w ⟨G6, hG6, hR6, hK⟩
         rw [tk_ot ⟨hs5, hp5, hpt⟩] at hR6
         obtain ⟨v6, rs6, rfl, hv6, hr6⟩ := hR6
         rw [ot_1] at hr6
         refine xnk ((K.vle (K.sl hK) hG6)) fun hS => ?_
         refine xt (i := 12) rfl kr rfl rfl (fun w hK => (ext rfl rfl)) hS <| xt (i := 13) rfl kr rfl rfl (fun w hK => (ext rfl rfl)) hS <| ?_
         refine xe (i := 14) kr rfl rfl ?_
         refine cf (cap := [.pointer (some ⟨b6, 0, none⟩)]) (call196) rfl rfl (try_c (x := v6) hv6.sl.1.one hK) ?_
         rintro _ w ⟨rfl, hK⟩
         obtain ⟨v7, rs7, hv7e, hv7, hr7⟩ := try_ring (hv5.mono hG6) hv6 (ot_b (r := rgl rs5) (o := notifyR (rgl rs5) (a0 (ndAt (rgl rs5) id)) id)) hr6
         rw [hv7e] at hK
         refine xnk ((K.vle (K.sl hK) hG6)) fun hS => ?_
         refine xd kr <| thn <| sq <| rg <| vl (ldO hK Ty.o32 0 rfl rfl rfl) <| vl asg <| vl (aB rfl) <| nl <| thn <| rt <| p2r (a := _) (b := .bool _) rfl rfl <| ?_
         exact ⟨G6, v7, rs7, (((((hG1.trans hG2).trans hG3).trans hG4).trans hG5).trans hG6), rfl, hv7, by rw [hr7, hr5, hr4, hd]; rfl, hK.drop1⟩
        ·skip
         refine cl call162 rfl (nodeAt_in hK hv5 hm5) ?_
         rintro _ w ⟨rfl, hK⟩
         refine xnk (K.sl hK) fun hS => ?_
         refine xt (i := 5) rfl kr rfl rfl (fun w hK => (nc rfl)) hS <| xt (i := 6) rfl kr rfl rfl (fun w hK => (fe underlying84 rfl Ty.z35 rfl hsl5.1 om)) hS <| xt (i := 7) rfl kr rfl rfl (fun w hK => (ldV hK Ty.o35 rfl (by exact hsl5.cell om 2 rfl))) hS <| xt (i := 8) rfl kr rfl rfl (fun w hK => (ixn1 underlying35 Ty.s3 rfl hx5.1 rfl om)) hS <| xt (i := 9) rfl kr rfl rfl (fun w hK => (ldV hK Ty.o3 rfl hc5)) hS <| ?_
         refine xe (i := 1) kr rfl rfl ?_
         refine vl (ldO hK Ty.o32 0 rfl rfl rfl) <| ?_
         refine xnk (K.sl hK) fun hS => ?_
         refine xe (i := 11) kr rfl rfl ?_
         refine cl call200 rfl (implRingNotify_c hK hv5) ?_
         rintro _ w ⟨G6, hG6, hR6, hK⟩
         rw [tk_ot ⟨hs5, hp5, hpt⟩] at hR6
         obtain ⟨v6, rs6, rfl, hv6, hr6⟩ := hR6
         rw [ot_1] at hr6
         refine xnk ((K.vle (K.sl hK) hG6)) fun hS => ?_
         refine xt (i := 12) rfl kr rfl rfl (fun w hK => (ext rfl rfl)) hS <| xt (i := 13) rfl kr rfl rfl (fun w hK => (ext rfl rfl)) hS <| ?_
         refine xe (i := 14) kr rfl rfl ?_
         refine cf (cap := [.pointer (some ⟨b6, 0, none⟩)]) (call196) rfl rfl (try_c (x := v6) hv6.sl.1.one hK) ?_
         rintro _ w ⟨rfl, hK⟩
         obtain ⟨v7, rs7, hv7e, hv7, hr7⟩ := try_ring (hv5.mono hG6) hv6 (ot_b (r := rgl rs5) (o := notifyR (rgl rs5) (a0 (ndAt (rgl rs5) id)) id)) hr6
         rw [hv7e] at hK
         refine xnk ((K.vle (K.sl hK) hG6)) fun hS => ?_
         refine xd kr <| thn <| sq <| rg <| vl (ldO hK Ty.o32 0 rfl rfl rfl) <| vl asg <| vl (aB rfl) <| nl <| thn <| rt <| p2r (a := _) (b := .bool _) rfl rfl <| ?_
         exact ⟨G6, v7, rs7, (((((hG1.trans hG2).trans hG3).trans hG4).trans hG5).trans hG6), rfl, hv7, by rw [hr7, hr5, hr4, hd]; rfl, hK.drop1⟩
     ·cases h5
end
end Go.Proofs.YtbiihblpgfgaoabGreatDoor
