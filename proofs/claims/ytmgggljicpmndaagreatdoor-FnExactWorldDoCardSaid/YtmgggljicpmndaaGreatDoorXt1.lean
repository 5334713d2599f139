/- The program's guarded events: in new memory. The program's events of worlds: what they give back lies in new memory. Contracts of the functions that copy a law's world: the copy lies in new memory. Conditions: those that each row states. -/
import Derived.Test.YtmgggljicpmndaaGreatDoorWe2
import Derived.Test.YtmgggljicpmndaaGreatDoorXp1
import Derived.Test.YtmgggljicpmndaaGreatDoorWe
import Derived.Test.YtmgggljicpmndaaGreatDoorWdP
namespace Go.Proofs.YtmgggljicpmndaaGreatDoor
open Go Go.Ro Tryz
section
open Go.MuLone
variable {e w : World} {G G0 : View} {L A AI AS : Own} {v u m0 m1 : Value} {rs qs : List Rn} {W W' : Wv} {wd wd' : Wd} {a b c k kd : Int} {gk : Nat} {a0 a1 : Addr} {l : List Value}
theorem doF_c (hG0 : VLe G0 G) (hE : ErrS 228 0 1 G a0 a1) (h : WdP G0 G 98 101 lc 104 3 W wd rs AI AS) (hok : WdOk wd) (hK : K e w G ((gk, row (.int .i32 0 :: m1 :: wc W) 69) :: (AI ++ (AS ++ L)))) :
  Ret prog 26 #[.pointer (some ⟨gk, 0, none⟩), .agg (ec kd a b c).toArray] w (fun r w' => r = .tuple #[] ∧ ∃ G' W' rs' AI' AS', VLe G G' ∧ WdP G0 G' 98 101 lc 104 3 W' (doW wd kd a b c) rs' AI' AS' ∧ K e w' G' ((gk, row (.int .i32 0 :: m1 :: wc W') 69) :: (AI' ++ (AS' ++ L)))) := by
 refine enterDf (n := Tryz.f26.ntmps) (args := [.pointer (some ⟨gk, 0, none⟩), .agg (ec kd a b c).toArray]) func26 rfl rfl rfl ?_
 refine sqA (rg ?_)
 refine bx hK rfl rfl ?_
 intro b3 w hK
 refine nl ⟨rfl, ?_⟩
 refine sqA (rg ?_)
 refine vl mv <| vl (nc rfl) <| vl (fa underlying69 rfl Ty.z67 rfl) <| ?_
 refine cl call64 rfl (lockR hK.swp) ?_
 rintro _ w ⟨rfl, hK⟩
 refine nl ⟨rfl, ?_⟩
 refine wp_seq (wp_region_lit ?_)
 refine valA rfl mv <| valA rfl (nc rfl) <| valA rfl (fa underlying69 rfl Ty.z67 rfl) <| dfA rfl ?_
 replace hK : K e w G ((b3, row (ec kd a b c) 55) :: (gk, row (.int .i32 1 :: m1 :: wc W) 69) :: (AI ++ (AS ++ L))) := hK.swp
 refine rgxD (Q3 := fun _ _ w => ∃ G' W' rs' AI' AS', VLe G G' ∧ WdP G0 G' 98 101 lc 104 3 W' (doW wd kd a b c) rs' AI' AS' ∧ K e w G' ((gk, row (.int .i32 1 :: m1 :: wc W') 69) :: (AI' ++ (AS' ++ ((b3, row (ec kd a b c) 55) :: L))))) (fun w => K e w G ((b3, row (ec kd a b c) 55) :: L)) [U,U,U,U,U] Ty.mixed rfl rfl (C := fun w => K e w G ((b3, row (ec kd a b c) 55) :: (gk, row (.int .i32 1 :: m1 :: wc W) 69) :: (AI ++ (AS ++ L)))) (hK.drawn _) ?_ ?_
 ·intro w hK
  have hS : (fun w => K e w G ((b3, row (ec kd a b c) 55) :: L)) w := K.sl hK
  refine xt (i := 0) rfl kr rfl rfl (fun w hK => mv) hS <| ?_
  refine xt (i := 1) rfl kr rfl rfl (fun w hK => (nc rfl)) hS <| ?_
  refine xt (i := 2) rfl kr rfl rfl (fun w hK => (fa underlying69 rfl Ty.z31 rfl)) hS <| ?_
  refine xt (i := 3) rfl kr rfl rfl (fun w hK => (lsO hK Ty.a55 Ty.s55 0 rfl rfl rfl)) hS <| ?_
  refine xe (i := 4) kr rfl rfl ?_
  have hK1 : K e w G ((gk, row (.int .i32 1 :: m1 :: wc W) 69) :: (AI ++ (AS ++ ((b3, row (ec kd a b c) 55) :: L)))) := hK.reo
  refine cl call66 rfl (applyF_c hG0 hE h hok hK1) ?_
  rintro _ w ⟨rfl, G1, W1, q1, AI1, AS1, hG1, hW1, hK⟩
  have hS2 : K e w G ((b3, row (ec kd a b c) 55) :: L) := K.vle (K.sl hK) hG1
  refine xn (fun w => K e w G ((b3, row (ec kd a b c) 55) :: L)) hS2 (fun _ h => h) ?_
  exact xd kr ⟨G1, W1, q1, AI1, AS1, hG1, hW1, hK⟩
 ·rintro g w ⟨G1, W1, q1, AI1, AS1, hG1, hW1, hK⟩
  have hb := hK.own gk _ (List.mem_cons_self ..)
  refine leaves_cons (f := 65) (args := #[.pointer (some ⟨gk, 0, none⟩)]) (by simp) (call65 _ _) ?_
  refine (unlock_deferred muLib ⟨gk, 0, none⟩ .returning w (by simp [World.cell?, hb, row]) (by simp [World.frozen?, hb, row])).mono ?_
  rintro e u' w' ⟨rfl, rfl, rfl⟩
  exact ⟨_, results_none rfl _ _ _, _, rfl, rfl, G1, W1, q1, AI1, AS1, hG1, hW1, outB (K.set0 hK)⟩
end
open Go Go.Ro Tryz
section
variable {e w : World} {G G0 : View} {L A AI AS : Own} {v u m0 m1 : Value} {rs qs : List Rn} {W W' : Wv} {wd wd' : Wd} {a b c k kd : Int} {gk : Nat} {a0 a1 : Addr} {l : List Value}
set_option maxHeartbeats 1000000 in
theorem implWorldDoF_c (hE : ErrS 228 0 1 G a0 a1) (hK : K e w G L) (hW : WdS G lc W wd rs) (hzl : wd.items.length ≤ 1048576) :
  Ret prog 21 #[.agg (wc W).toArray, .agg (ec kd a b c).toArray] w (fun r w' => ∃ G' W' rs', VLe G G' ∧ r = .agg (wc W').toArray ∧ WdS G' lc W' (wdF wd kd a b c) rs' ∧ WdF lc 98 101 104 3 G G' W' (wdF wd kd a b c) rs' ∧ K e w' G' L) := by
 refine enterG1 (args := [.agg (wc W).toArray, .agg (ec kd a b c).toArray]) func21 rfl rfl rfl rfl ?_
 refine sq <| rg <| ?_
 refine bx hK rfl rfl ?_
 intro b2 w hK
 refine bx hK rfl rfl ?_
 intro b3 w hK
 refine al hK Ty.i31 rfl ?_
 intro b4 w hK
 refine nl <| thn <| sq <| sq <| rg <| vl (lsO hK Ty.a31 Ty.s31 2 rfl rfl rfl) <| ?_
 refine cl call51 rfl (implWorldValid_c hK hW om) ?_
 rintro _ w ⟨rfl, hK⟩
 refine vl (ntB rfl) <| nl <| thn <| ?_
 refine cdB rfl (fun h1 => ?_) fun h1 => ?_
 ·have h1' := not_dec (Eq.mp (Bool.not_eq_true' _) h1)
  refine sq <| rg <| ?_
  refine vl (bd [] Ty.p31 Ty.i31 rfl trivial rfl) <| ?_
  refine soS hK Ty.i31 0 rfl rfl rfl rfl (by rfl) rfl ?_
  intro w hK
  refine nl <| thn <| rt <| thr <| pg1r (rvS hK Ty.a31 Ty.s31 0 rfl rfl rfl) <| ?_
  exact ⟨G, ⟨0, .slice none 0 0, .slice none 0 0, .slice none 0 0, 0, .slice none 0 0, .slice none 0 0⟩, [], VLe.refl _, rfl, by rw [wdF_no h1']; exact ⟨rfl, ⟨nil_row, fun _ h => (nomatch h)⟩, rfl, nil_row, nil_row, rfl, nil_row, nil_row⟩, by rw [wdF_no h1']; exact WdF.zero, hK.drop1.drop1.drop1⟩
 ·have hd := of_dec (Eq.mp (Bool.not_eq_false' _) h1)
  refine sk <| thn <| sq <| rg <| ?_
  refine vl (lsO hK Ty.a31 Ty.s31 2 rfl rfl rfl) <| ?_
  refine cl call52 rfl (copyWorldF_c hK hW hd.2.1.1 (by have := hd.2.2.1.1; omega) (by have := hd.wda.zl; omega) (by have := hd.2.2.2.2.1.2.1.len; omega) (by have := hd.2.2.2.2.2.1.len; omega)) ?_
  rintro _ w ⟨G1, W1, q1, AI, AS, hG1, rfl, hW1, hK⟩
  replace hK : K _ _ _ ((b4, row [.int .i64 0, .slice none 0 0, .slice none 0 0, .slice none 0 0, .int .i64 0, .slice none 0 0, .slice none 0 0] 31) :: (b3, row (ec kd a b c) 55) :: (b2, row (wc W) 31) :: (AI ++ (AS ++ L))) := hK.reo
  refine vl (bd [(1, _)] Ty.p69 Ty.i69 rfl ⟨⟨rfl, rfl⟩, trivial⟩ rfl) <| ?_
  refine bx hK rfl rfl ?_
  intro b13 w hK
  refine vl asg <| nl <| thn <| sq <| rg <| vl mv <| vl (lsO hK Ty.a55 Ty.s55 2 rfl rfl rfl) <| ?_
  replace hK : K e w G1 ((b13, row (.int .i32 0 :: .int .u32 0 :: wc W1) 69) :: (b4, row [.int .i64 0, .slice none 0 0, .slice none 0 0, .slice none 0 0, .int .i64 0, .slice none 0 0, .slice none 0 0] 31) :: (b3, row (ec kd a b c) 55) :: (b2, row (wc W) 31) :: (AI ++ (AS ++ L))) := hK
  replace hK : K _ _ _ ((b13, row (.int .i32 0 :: .int .u32 0 :: wc W1) 69) :: (AI ++ (AS ++ ((b4, row [.int .i64 0, .slice none 0 0, .slice none 0 0, .slice none 0 0, .int .i64 0, .slice none 0 0, .slice none 0 0] 31) :: (b3, row (ec kd a b c) 55) :: (b2, row (wc W) 31) :: L)))) := hK.reo
  refine cl call26 rfl (doF_c hG1 (hE.mono hG1) hW1 hd hK) ?_
  rintro _ w ⟨rfl, G2, W2, q2, AI2, AS2, hG2, hW2, hK⟩
  replace hK : K _ _ _ ((b13, row (.int .i32 0 :: .int .u32 0 :: wc W2) 69) :: (b4, row [.int .i64 0, .slice none 0 0, .slice none 0 0, .slice none 0 0, .int .i64 0, .slice none 0 0, .slice none 0 0] 31) :: (b3, row (ec kd a b c) 55) :: (b2, row (wc W) 31) :: (AI2 ++ (AS2 ++ L))) := hK.reo
  refine nl <| thn <| sq <| rg <| vl mv <| vl (nc rfl) <| vl (fa underlying69 rfl Ty.z31 rfl) <| vl (lsP (u := wc W2) hK Ty.a31 Ty.s31 0 rfl rfl rfl rfl) <| ?_
  refine soS hK Ty.i31 1 rfl rfl rfl rfl (WdO.one hW2.toWdO) rfl ?_
  intro w hK
  refine nl <| thn <| rt <| pg1r (rvS hK Ty.a31 Ty.s31 1 rfl rfl rfl) <| ?_
  have hK2 : K e w G2 ([(b13, row (.int .i32 0 :: .int .u32 0 :: wc W2) 69), (b4, row (wc W2) 31), (b3, row (ec kd a b c) 55), (b2, row (wc W) 31)] ++ (AI2 ++ (AS2 ++ L))) := hK
  obtain ⟨G3, hG3, hW3, hF3, hK3⟩ := hW2.pubF (hG1.trans hG2) hK2.dropL
  exact ⟨G3, W2, q2, (hG1.trans hG2).trans hG3, rfl, by rw [wdF_yes hd]; exact hW3, by rw [wdF_yes hd]; exact hF3, hK3⟩
end
open Go Go.Ro Tryz
section
variable {e w : World} {G G0 : View} {L A : Own} {v u t t2 : Value} {xs ys : List Int} {ls ms : List Ls} {rs qs : List Rn} {zs ts : List It} {W W' : Wv} {wd wd' : Wd} {n m k : Int}
theorem toIntSF_v (hG0 : VLe G0 G) (hK : K e w G L) (hv : IntS G v xs) (hl : xs.length ≤ 1048576) :
  Ret prog 7 #[v] w (fun r w' => ∃ G', VLe G G' ∧ IntS G' r xs ∧ New 1 3 G0 G' r xs.length (ints xs) ∧ (∀ b ∈ bl r, G b = none) ∧ K e w' G' L) :=
 (toIntS_o hK hv hl).mono fun _ _ ⟨_, ho, hK⟩ => K.pubOF hK ho hG0
theorem toLeaseSF_v (hG0 : VLe G0 G) (hK : K e w G L) (hv : LeaS G v ls) (hl : ls.length ≤ 1048576) :
  Ret prog 48 #[v] w (fun r w' => ∃ G', VLe G G' ∧ LeaS G' r ls ∧ New 3 101 G0 G' r ls.length (ls.flatMap lc) ∧ (∀ b ∈ bl r, G b = none) ∧ K e w' G' L) :=
 (toLeaseS_c hK hv hl).mono fun _ _ ⟨_, ho, hK⟩ => K.pubEF (fun _ => rfl) hK ho hG0
theorem toItemSF_v (hG0 : VLe G0 G) (hK : K e w G L) (hv : ItS G v zs) (hl : zs.length ≤ 1048576) :
  Ret prog 49 #[v] w (fun r w' => ∃ G', VLe G G' ∧ ItS G' r zs ∧ New 2 104 G0 G' r zs.length (zs.flatMap ic) ∧ (∀ b ∈ bl r, G b = none) ∧ K e w' G' L) :=
 (toItemS_c hK hv hl).mono fun _ _ ⟨_, ho, hK⟩ => K.pubEF (fun _ => rfl) hK ho hG0
theorem toScanF_v {ts : List Int} (hG0 : VLe G0 G) (hK : K e w G L) (ht : IntS G t ts) (hl : ts.length ≤ 1048576) :
  Ret prog 50 #[.agg #[.int .i64 n, t]] w (fun r w' => ∃ G' t', r = .agg #[.int .i64 n, t'] ∧ VLe G G' ∧ IntS G' t' ts ∧ New 1 3 G0 G' t' ts.length (ints ts) ∧ (∀ b ∈ bl t', G b = none) ∧ K e w' G' L) :=
 (toScan_c hK ht hl).mono fun _ _ ⟨t', _, hr, ho, hK⟩ => let ⟨G', h1, h2, h3, h4, h5⟩ := K.pubOF hK ho hG0; ⟨G', t', hr, h1, h2, h3, h4, h5⟩
theorem toNodeF_v (hG0 : VLe G0 G) (hK : K e w G L) {x : Rn} (hx : IntS G x.2.2.1 x.2.2.2) (hl : x.2.2.2.length ≤ 1048576) :
  Ret prog 78 #[.agg (rc x).toArray] w (fun r w' => ∃ G' t, r = .agg (rc (x.1, x.2.1, t, x.2.2.2)).toArray ∧ VLe G G' ∧ IntS G' t x.2.2.2 ∧ New 1 3 G0 G' t x.2.2.2.length (ints x.2.2.2) ∧ (∀ b ∈ bl t, G b = none) ∧ K e w' G' L) := by
 refine enterG1 (args := [.agg (rc x).toArray]) func78 rfl rfl rfl rfl ?_
 refine sq <| rg <| ?_
 refine bx hK rfl rfl ?_
 intro b1 w hK
 refine al hK Ty.i98 rfl ?_
 intro b2 w hK
 refine nl <| thn <| sq <| rg <| ?_
 refine al hK Ty.i98 rfl ?_
 intro b3 w hK
 refine nl <| thn <| sq <| rg <| vl (fa underlying106 rfl Ty.z3 rfl) <| vl (ldO hK Ty.o3 2 rfl rfl rfl) <| vl (fa underlying98 rfl Ty.z3 rfl) <| ?_
 refine so hK Ty.i3 rfl 0 rfl rfl rfl rfl rfl ?_
 intro w hK
 refine nl <| thn <| sq <| rg <| vl (fa underlying106 rfl Ty.z3 rfl) <| vl (ldO hK Ty.o3 2 rfl rfl rfl) <| vl (fa underlying98 rfl Ty.z3 rfl) <| ?_
 refine so hK Ty.i3 rfl 0 rfl rfl rfl rfl rfl ?_
 intro w hK
 refine nl <| thn <| sq <| rg <| vl (fa underlying106 rfl Ty.z22 rfl) <| vl (ldO hK Ty.o22 2 rfl rfl rfl) <| ?_
 refine cl call7 rfl (toIntSF_v hG0 hK hx hl) ?_
 rintro t12 w ⟨G1, hG1, ht, htn, htb, hK⟩
 refine vl (fa underlying98 rfl Ty.z22 rfl) <| ?_
 refine so hK Ty.i22 rfl 0 rfl rfl rfl (SlW.one ht.1) rfl ?_
 intro w hK
 refine nl <| thn <| sq <| rg <| vl (lsO hK Ty.a98 Ty.s98 0 rfl rfl rfl) <| ?_
 refine soS hK Ty.i98 1 rfl rfl rfl rfl (allc rfl (allc rfl (allc (SlW.one ht.1) rfl))) rfl ?_
 intro w hK
 refine nl <| thn <| rt <| pg1r (rvS hK Ty.a98 Ty.s98 1 rfl rfl rfl) <| ?_
 exact ⟨G1, t12, rfl, hG1, ht, htn, htb, hK.drop1.drop1.drop1⟩
theorem toNodeSF_v (hK : K e w G L) (hv : RngS G v rs) (hl : rs.length ≤ 1048576) (hll : ∀ x ∈ rs, x.2.2.2.length ≤ 1048576) :
  Ret prog 47 #[v] w (fun r w' => ∃ G' qs, VLe G G' ∧ RngS G' r qs ∧ RgNew 98 3 G G' r qs ∧ rgl qs = rgl rs ∧ K e w' G' L) := by
 have hs := hv.sl
 refine enter1 (args := [v]) func47 rfl rfl rfl rfl ?_
 refine sq <| rg <| ?_
 refine vl asg <| nl <| thn <| sq <| rg <| vl mv <| vl (ln underlying44 rfl hs.len) <| ?_
 refine mks hK underlying25 Ty.i98 rfl rfl rfl rfl rfl om rfl ?_
 intro b7 w ho7 hK
 refine vl asg <| nl <| thn <| sq <| sq <| rg <| vl (aI rfl) <| nl <| thn <| bk <| ?_
 rw [show ([.int .i64 0, .int .i64 0, .slice none 0 0] : List Value) = rc (0, 0, .slice none 0 0, []) from rfl, flat_rep] at hK ho7
 refine lp (σ := View × Nat × Own × List Rn) (fun s => [(0, v), (3, .slice (some ⟨b7, 0, none⟩) rs.length rs.length), (4, .int .i64 (s.2.1 : Int))]) (fun s w => VLe G s.1 ∧ s.2.1 ≤ rs.length ∧ s.2.2.2.length = s.2.1 ∧ rgl s.2.2.2 = rgl (rs.take s.2.1) ∧ (∀ x ∈ s.2.2.2, IntS s.1 x.2.2.1 x.2.2.2) ∧ RnF 3 G s.1 s.2.2.2 ∧ OS 3 98 (.slice (some ⟨b7, 0, none⟩) rs.length rs.length) rs.length ((s.2.2.2 ++ List.replicate (rs.length - s.2.1) ((0, 0, .slice none 0 0, []) : Rn)).flatMap rc) s.2.2.1 ∧ K e w s.1 (s.2.2.1 ++ L)) (fun s => rs.length - s.2.1) (G, 0, [_], []) ⟨rfl, rfl, rfl, trivial⟩ ⟨VLe.refl _, Nat.zero_le _, rfl, rfl, fun _ h => (nomatch h), RnF.nil, by simpa using ho7, by simpa using hK⟩ ?_
 rintro ⟨G1, i, A, qs⟩ g w ⟨hG, hi, hql, hq, hqa, hnf, ho, hK⟩
 simp only at hG hi hql hq hqa hnf ho hK
 have hs1 := EF.mono hs hG
 refine sq <| sq <| rg <| ?_
 refine vl (mI rfl) <| vl mv <| vl (ln underlying44 rfl hs1.len) <| vl (lt rfl rfl) <| nl <| thn <| ?_
 refine cdP rfl (fun hc => ?_) fun hc => ?_
 ·have hi' : i < rs.length := by simp only at hc; omega
  refine sk <| thn <| sq <| bk <| rg <| ?_
  refine vl mv <| vl (mI rfl) <| vl mv <| vl (mI rfl) <| vl (ixn underlying44 Ty.s106 rfl hs1.1 rfl om) <| vl (lsF hK Ty.a106 Ty.s106 rfl hs1 om) <| ?_
  refine cl call78 rfl (toNodeF_v hG hK (IntS.mono (hv.at hi') hG) (hll _ (List.getElem_mem hi'))) ?_
  rintro _ w ⟨G2, t, rfl, hG2, ht, htn, htb, hK⟩
  refine vl (ixn underlying25 Ty.s98 rfl ho.slw rfl om) <| ?_
  refine osSetS (i := i) (us := rc (rs[i].1, rs[i].2.1, t, rs[i].2.2.2)) hK ho om Ty.i98 rfl rfl rfl (allc rfl (allc rfl (allc (SlW.one ht.1) rfl))) fun A' w ho hK => ?_
  rw [flat_sets (c := rc) (sz := 3) rc_len _ i (rs[i].1, rs[i].2.1, t, rs[i].2.2.2) (by rw [List.length_append, List.length_replicate]; omega)] at ho
  have hs := set_next (us := qs) (z := ((0, 0, .slice none 0 0, []) : Rn)) (u := (rs[i].1, rs[i].2.1, t, rs[i].2.2.2)) (i := i) (m := rs.length) hql hi'
  rw [Nat.zero_add] at hs
  rw [hs] at ho
  refine nl <| bkn <| thn <| rg <| vl (mI rfl) <| vl (ad rfl rfl) <| vl (aI rfl) <| nl <| thn <| ?_
  exact ⟨(G2, i + 1, A', qs ++ [(rs[i].1, rs[i].2.1, t, rs[i].2.2.2)]), ⟨rfl, rfl, rfl, trivial⟩, ⟨hG.trans hG2, hi', by simp [hql], by rw [rgl_take_succ hi', ← hq]; unfold rgl; rw [List.map_append]; rfl, fun x hx => by
   rcases List.mem_append.1 hx with h | h
   ·exact (hqa x h).mono hG2
   ·obtain rfl := List.mem_singleton.1 h; exact ht, hnf.snoc htn hG2 htb, ho, hK⟩, by simp only; omega⟩
 ·have hi' : i = rs.length := by simp only at hc; omega
  subst hi'
  refine ex <| the <| the <| bkh <| thn <| sq <| rg <| ?_
  refine vl mv <| vl asg <| nl <| thn <| rt <| p1r (a := _) rfl <| ?_
  rw [List.take_length] at hq
  rw [Nat.sub_self, List.replicate_zero, List.append_nil, ← hql] at ho
  obtain ⟨G2, hG2, hr, hrn, hK⟩ := OR.pubF ⟨ho, hqa⟩ hnf hK hG
  rw [hql] at hr hrn
  exact ⟨G2, qs, hG.trans hG2, hr, hrn, hq, hK⟩
theorem toWorldF_v (hK : K e w G L) (hW : WdS G lc W wd rs) (hl : WdL wd) :
  Ret prog 19 #[.agg (wc W).toArray] w (fun r w' => ∃ G' W' qs, r = .agg (wc W').toArray ∧ VLe G G' ∧ WdS G' lc W' wd qs ∧ WdF lc 98 101 104 3 G G' W' wd qs ∧ K e w' G' L) := by
 obtain ⟨g1, g2, g3, g4, g5, g6⟩ := hl
 have hrl : rs.length ≤ 1048576 := by rw [← hW.rg, rg_len] at g1; exact g1
 have hra : ∀ x ∈ rs, x.2.2.2.length ≤ 1048576 := fun x hx => g2 (nd x) (by rw [← hW.rg]; exact List.mem_map.2 ⟨x, hx, rfl⟩)
 refine enterG1 (args := [.agg (wc W).toArray]) func19 rfl rfl rfl rfl ?_
 refine sq <| rg <| ?_
 refine bx hK rfl rfl ?_
 intro b1 w hK
 refine al hK Ty.i31 rfl ?_
 intro b2 w hK
 refine nl <| thn <| sq <| rg <| ?_
 refine al hK Ty.i31 rfl ?_
 intro b3 w hK
 refine nl <| thn <| sq <| rg <| vl (fa underlying49 rfl Ty.z3 rfl) <| vl (ldO hK Ty.o3 2 rfl rfl rfl) <| vl (fa underlying31 rfl Ty.z3 rfl) <| ?_
 refine so hK Ty.i3 rfl 0 rfl rfl rfl rfl rfl ?_
 intro w hK
 refine nl <| thn <| sq <| rg <| vl (fa underlying49 rfl Ty.z44 rfl) <| vl (ldO hK Ty.o44 2 rfl rfl rfl) <| ?_
 refine cl call47 rfl (toNodeSF_v hK hW.ring hrl hra) ?_
 rintro v9 w ⟨G1, qs, hG1, hr, hrn, hq, hK⟩
 refine vl (fa underlying31 rfl Ty.z25 rfl) <| ?_
 refine so hK Ty.i25 rfl 0 rfl rfl rfl (SlW.one hr.sl.1) rfl ?_
 intro w hK
 refine nl <| thn <| sq <| rg <| vl (fa underlying49 rfl Ty.z45 rfl) <| vl (ldO hK Ty.o45 2 rfl rfl rfl) <| ?_
 refine cl call48 rfl (toLeaseSF_v hG1 hK (LeaS.mono hW.leases hG1) g3) ?_
 rintro v13 w ⟨G2, hG2, h13, n13, f13, hK⟩
 have hGa := hG1.trans hG2
 refine vl (fa underlying31 rfl Ty.z26 rfl) <| ?_
 refine so hK Ty.i26 rfl 0 rfl rfl rfl (SlW.one h13.1) rfl ?_
 intro w hK
 refine nl <| thn <| sq <| rg <| vl (fa underlying49 rfl Ty.z46 rfl) <| vl (ldO hK Ty.o46 2 rfl rfl rfl) <| ?_
 refine cl call49 rfl (toItemSF_v hGa hK (hW.items.mono hGa) g4) ?_
 rintro v17 w ⟨G3, hG3, h17, n17, f17, hK⟩
 have hGb := hGa.trans hG3
 refine vl (fa underlying31 rfl Ty.z27 rfl) <| ?_
 refine so hK Ty.i27 rfl 0 rfl rfl rfl (SlW.one h17.1) rfl ?_
 intro w hK
 refine nl <| thn <| sq <| rg <| vl (fa underlying49 rfl Ty.z47 rfl) <| vl (lsP (u := [.int .i64 W.next, W.t]) hK Ty.a47 Ty.s47 2 rfl rfl rfl rfl) <| ?_
 refine cl call50 rfl (toScanF_v hGb hK (hW.told.mono hGb) g5) ?_
 rintro _ w ⟨G4, v21, rfl, hG4, h21, n21, f21, hK⟩
 have hGc := hGb.trans hG4
 refine vl (fa underlying31 rfl Ty.z29 rfl) <| ?_
 refine soS hK Ty.i29 0 rfl rfl rfl rfl (allc rfl (allc (SlW.one h21.1) rfl)) rfl ?_
 intro w hK
 refine nl <| thn <| sq <| rg <| vl (fa underlying49 rfl Ty.z22 rfl) <| vl (ldO hK Ty.o22 2 rfl rfl rfl) <| ?_
 refine cl call7 rfl (toIntSF_v hGc hK (hW.since.mono hGc) g6) ?_
 rintro v25 w ⟨G5, hG5, h25, n25, f25, hK⟩
 have hGd := hGc.trans hG5
 have hW5 : WdS G5 lc ⟨W.now, v9, v13, v17, W.next, v21, v25⟩ wd qs := ⟨hW.now, hr.mono (((hG2.trans hG3).trans hG4).trans hG5), hq.trans hW.rg, LeaS.mono h13 ((hG3.trans hG4).trans hG5), h17.mono (hG4.trans hG5), hW.next, h21.mono hG5, h25⟩
 refine vl (fa underlying31 rfl Ty.z22 rfl) <| ?_
 refine so hK Ty.i22 rfl 0 rfl rfl rfl (SlW.one h25.1) rfl ?_
 intro w hK
 refine nl <| thn <| sq <| rg <| vl (lsO hK Ty.a31 Ty.s31 0 rfl rfl rfl) <| ?_
 refine soS hK Ty.i31 1 rfl rfl rfl rfl (WdS.one hW5) rfl ?_
 intro w hK
 refine nl <| thn <| rt <| pg1r (rvS hK Ty.a31 Ty.s31 1 rfl rfl rfl) <| ?_
 exact ⟨G5, _, qs, rfl, hGd, hW5, wdf5 hrn n13 f13 n17 f17 n21 f21 n25 f25 hG2 hG3 hG4 hG5, hK.drop1.drop1.drop1⟩
end
end Go.Proofs.YtmgggljicpmndaaGreatDoor
