/- Contracts of functions on strings: the commands of the program's console. Contracts of functions on strings: a line of the program's console. Conditions: those that each row states. -/
import Derived.Test.YtbiihblpgfgaoabGreatDoorXh
import Derived.Test.YtbiihblpgfgaoabGreatDoorXe
import Derived.Test.YtbiihblpgfgaoabGreatDoorSb
import Derived.Test.YtbiihblpgfgaoabGreatDoorWm
import Derived.Test.YtbiihblpgfgaoabGreatDoorCs
import Derived.Test.YtbiihblpgfgaoabGreatDoorPnc
namespace Go.Proofs.YtbiihblpgfgaoabGreatDoor
open Go Go.Ro Tryz
section
variable {e w : World} {G : View} {L A B : Own} {v u bv p : Value} {xs : List Int} {rs qs : List Rn} {W W' : Wv} {wd wd' : Wd} {k n : Int} {l out h : List UInt8} {ws : List (List UInt8)} {cb : Nat} {a0 a1 : Addr}
theorem kdF_nn : ∀ (ls : List (List UInt8)) (k : Int) (w : List UInt8), 0 ≤ k → 0 ≤ kdF ls k w
 | [], _, _, _ => Int.le_refl _
 | x :: ls, k, w, h => by
  rw [kdF]; split
  ·exact h
  ·exact kdF_nn ls (k + 1) w (by omega)
theorem kdL_nn (w : List UInt8) : 0 ≤ kdL w := kdF_nn _ _ _ (by decide)
theorem kd_of {h m : List UInt8} (hh : h = m) (hm : kdL m = 0) : ¬ 0 < kdL h := by subst hh; omega
theorem prT_nd {x : Rn} {a b : Int} (h : x.2.2.2 = [a, b]) : prT [] [x.1, x.2.1, a, b] = ndT (nd x) := by
 have e1 : a0 (nd x) = a := by show (x.2.2.2).getD 0 0 = a; rw [h]; rfl
 have e2 : a1 (nd x) = b := by show (x.2.2.2).getD 1 0 = b; rw [h]; rfl
 unfold prT ndT
 rw [e1, e2]
 simp [hdP, Lib.join_cons, Lib.joinTail, nd]
theorem prT_ls (x : Ls) : prT [] [x.1, x.2.1, x.2.2] = l1T x := by
 unfold prT l1T
 simp [hdP, Lib.join_cons, Lib.joinTail]
theorem prT_1 (n : Int) : prT [] [n] = num n ++ [10] := by
 unfold prT
 simp [hdP, Lib.join_cons, Lib.joinTail]
theorem prT_w {w : List UInt8} (hw : w ≠ []) : prT w [] = w ++ [10] := by
 unfold prT hdP
 rw [if_neg hw]
 simp [Lib.join_cons, Lib.joinTail]
def ConR (e : World) (G : View) (L : Own) (cb : Nat) (wd : Wd) (out : List UInt8) (w : World) : Prop :=
 ∃ G' W rs p bv B, VLe G G' ∧ WdS G' lc W wd rs ∧ Bu cb p bv out B ∧ K e w G' ((cb, row (wc W ++ [p, bv]) 44) :: (B ++ L))
set_option maxHeartbeats 4000000 in
theorem command_c (hE : ErrS 252 6 7 G a0 a1) (hT : Tab G) (hW : WdS G lc W wd rs) (hok : WdOk wd) (hb : Bu cb p bv out B) (ho : out.length ≤ 500000) (hv : StrS G v (h :: ws)) (hlen : ∀ x ∈ h :: ws, x.length ≤ 1000000) (hK : K e w G ((cb, row (wc W ++ [p, bv]) 44) :: (B ++ L))) :
  RetP prog 30 #[.pointer (some ⟨cb, 0, none⟩), v] w (ConR e G L cb (lnH wd (h :: ws) h).1 (out ++ (lnH wd (h :: ws) h).2))
   (fun ch w' => lnH wd (h :: ws) h = (wd, tWhat ++ [10]) ∧ (∃ T pv, ch = [{ v := .iface T pv, recovered := false }]) ∧ ConR e G L cb wd out w') := by
 obtain ⟨r1, r2, hr⟩ : ∃ r1 r2, lnH wd (h :: ws) h = (r1, r2) := ⟨_, _, rfl⟩
 rw [hr]
 simp only
 have hzl := hok.wda.zl
 have hwl : 0 < (h :: ws).length := Nat.succ_pos _
 have hc0 : cellV G (elA v 0) = some (Sv h) := StrS.cell hv (i := 0) hwl
 have hp1 := hb.1.one
 have hbv1 := hb.2.one
 refine enter0p (args := [.pointer (some ⟨cb, 0, none⟩), v]) func30 rfl rfl rfl rfl ?_
 refine sq <| rg <| ?_
 refine vl mv <| vl (ixm1 (m := 0) underlying47 Ty.s9 rfl hv.1 rfl om om) <| vl (ldV hK Ty.o9 rfl hc0) <| nl <| thn <| bk <| sq <| rg <| vl (seqE rfl rfl) <| vl (aB rfl) <| nl <| thn <| ?_
 refine cdP rfl (fun c1 => ?_) fun c1 => ?_
 ·have he := Prod.mk.inj (hr.symm.trans (lnH_calm (kd_of c1 (by decide)) c1))
  refine rg <| ?_
  refine vl mv <| vl mv <| vl (nc rfl) <| vl (fa underlying44 rfl Ty.z39 rfl) <| vl (lsP (u := wc W) hK Ty.a39 Ty.s39 0 rfl rfl rfl rfl) <| ?_
  refine cl call50 rfl (implWorldCalm_c hK hW om) ?_
  rintro _ w ⟨G3, W3, q3, hG3, rfl, hW3, hK⟩
  refine vl (nc rfl) <| vl (fa underlying44 rfl Ty.z39 rfl) <| ?_
  refine soS hK Ty.i39 0 rfl rfl rfl rfl (WdS.one hW3) rfl ?_
  intro w hK
  refine nl <| bkn <| pp0n <| ?_
  exact ⟨G3, W3, q3, p, bv, B, hG3, by rw [he.1]; exact hW3, by rw [he.2, List.append_nil]; exact hb, hK⟩
 ·refine sq <| rg <| ?_
  refine vl (seqE rfl rfl) <| vl (aB rfl) <| nl <| thn <| ?_
  refine cdP rfl (fun c2 => ?_) fun c2 => ?_
  ·have he := Prod.mk.inj (hr.symm.trans (lnH_ring (kd_of c2 (by decide)) c1 c2))
   have hR := hW.ring
   have hs := hR.sl
   have hrg := hW.rg
   have hokr : RgOk (rgl rs) := by rw [hrg]; exact hok.2.1.1
   have hle : rs.length ≤ 10 := by rw [← rg_len]; exact hokr.1
   refine sq <| rg <| ?_
   refine vl mv <| vl (nc rfl) <| vl (fa underlying44 rfl Ty.z39 rfl) <| vl (fa underlying39 rfl Ty.z32 rfl) <| vl (ldO hK Ty.o32 0 rfl rfl rfl) <| vl (ln underlying32 rfl hs.len) <| vl (mI rfl) <| nl <| thn <| bk <| ?_
   refine lp (σ := Nat × View × Value × Value × Own) (fun s => [(0, .pointer (some ⟨cb, 0, none⟩)), (52, W.r), (53, .int .i64 (rs.length : Int)), (54, .int .i64 (s.1 : Int))]) (fun s w => s.1 ≤ rs.length ∧ VLe G s.2.1 ∧ (rgT (rgl (rs.take s.1))).length ≤ 36 * s.1 ∧ Bu cb s.2.2.1 s.2.2.2.1 (out ++ rgT (rgl (rs.take s.1))) s.2.2.2.2 ∧ K e w s.2.1 ((cb, row (wc W ++ [s.2.2.1, s.2.2.2.1]) 44) :: (s.2.2.2.2 ++ L))) (fun s => rs.length - s.1) (0, G, p, bv, B) ⟨rfl, rfl, rfl, rfl, trivial⟩ ⟨Nat.zero_le _, VLe.refl _, Nat.le_refl _, by simpa [rgT, rgl] using hb, hK⟩ ?_
   clear hK hb hp1 hbv1
   rintro ⟨i, G1, p, bv, B⟩ g w ⟨hi, hG1, hll, hb, hK⟩
   simp only at hi hG1 hll hb hK
   have hR1 := hR.mono hG1
   have hs1 := hR1.sl
   refine sq <| rg <| ?_
   refine vl (lt rfl rfl) <| nl <| thn <| sq <| ?_
   refine cdP rfl (fun hc => ?_) fun hc => ?_
   ·have hi' : i < rs.length := by simp only at hc; omega
    have hnd := rgOk_at hokr hi'
    obtain ⟨a, b, hab, ha, hb'⟩ := aft2 hnd
    have hid : Pt rs[i].1 := hnd.1
    have hbf : rs[i].2.1 = -1 ∨ Pt rs[i].2.1 := hnd.2.1
    have haf := hR1.at hi'
    rw [hab] at haf
    have hone : (rc rs[i]).all Ro.one = true := allc rfl (allc rfl (allc haf.1.one rfl))
    have hal : (out ++ rgT (rgl (rs.take i))).length ≤ 1000000 := by rw [List.length_append]; omega
    have hst : out ++ rgT (rgl (rs.take i)) ++ prT [] [rs[i].1, rs[i].2.1, a, b] = out ++ rgT (rgl (rs.take (i + 1))) := by rw [rgT_take hi', prT_nd hab, List.append_assoc]
    have hnl := ndT_len hnd
    have htk := rgT_take hi'
    refine sk <| thn <| sq <| bk <| sq <| rg <| ?_
    refine vl (ixm (m := i) underlying32 Ty.s84 rfl hs1.1 rfl om om) <| vl (lsF hK Ty.a84 Ty.s84 rfl hs1 om) <| ?_
    refine al hK Ty.i84 rfl ?_
    intro b5 w hK
    refine soS hK Ty.i84 0 rfl rfl rfl rfl hone rfl ?_
    intro w hK
    refine nl <| thn <| rg <| vl mv <| vl (fa underlying84 rfl Ty.z3 rfl) <| vl (ldO hK Ty.o3 0 rfl rfl rfl) <| vl (fa underlying84 rfl Ty.z3 rfl) <| vl (ldO hK Ty.o3 0 rfl rfl rfl) <| ?_
    refine bsN [.tmp 60, .tmp 62] hK underlying35 Ty.i3 rfl rfl rfl rfl rfl rfl rfl rfl ?_
    intro b63 w hK
    refine vl (fa underlying84 rfl Ty.z35 rfl) <| vl (ldO hK Ty.o35 1 rfl rfl rfl) <| ?_
    replace hK : K e w G1 ([(b63, row (ints [rs[i].1, rs[i].2.1]) 3)] ++ ((b5, row (rc rs[i]) 84) :: (cb, row (wc W ++ [p, bv]) 44) :: (B ++ L))) := hK
    refine apI (xs := [rs[i].1, rs[i].2.1]) hK underlying35 Ty.i3 rfl rfl (OS.lit (m := 2) rfl (by decide)) rfl haf (show 2 + 2 ≤ 1000000000 by decide) fun v' A' w ho' hK => ?_
    obtain ⟨G2, hG2, hv2, hK⟩ := K.pubO hK ho'
    refine cl call19 rfl (print_c (xs := [rs[i].1, rs[i].2.1, a, b]) (wd := []) (hT.mono (hG1.trans hG2)) hb hK.drop1 hv2 (by intro x hx; simp only [List.mem_cons, List.not_mem_nil, or_false] at hx; rcases hx with rfl | rfl | rfl | rfl <;> constructor <;> omega) (show 4 ≤ 100 by decide) (by decide) hal) ?_
    rintro _ w ⟨rfl, p', bv', B', hb2, hK⟩
    rw [hst] at hb2
    refine nl <| bkn <| thn <| rg <| vl (ad rfl rfl) <| vl (mI rfl) <| nl <| thn <| ?_
    exact ⟨(i + 1, G2, p', bv', B'), ⟨rfl, rfl, rfl, rfl, trivial⟩, ⟨hi', hG1.trans hG2, by simp only; rw [htk, List.length_append]; omega, hb2, hK⟩, by simp only; omega⟩
   ·have hi' : i = rs.length := by simp only at hc; omega
    subst hi'
    rw [List.take_length, hrg] at hb
    refine ex <| the <| the <| bkh <| bkn <| pp0n <| ?_
    exact ⟨G1, W, rs, p, bv, B, hG1, by rw [he.1]; exact hW.mono hG1, by rw [he.2]; exact hb, hK⟩
  ·refine sq <| rg <| ?_
   refine vl (seqE rfl rfl) <| vl (aB rfl) <| nl <| thn <| ?_
   refine cdP rfl (fun c3 => ?_) fun c3 => ?_
   ·have he := Prod.mk.inj (hr.symm.trans (lnH_leases (kd_of c3 (by decide)) c1 c2 c3))
    have hs := hW.leases
    have hokl := hok.2.2.1
    have hle : wd.leases.length ≤ 12 := hokl.1.2
    obtain ⟨ls, hls⟩ : ∃ ls, wd.leases = ls := ⟨_, rfl⟩
    rw [hls] at hs hokl hle he
    refine sq <| rg <| ?_
    refine vl mv <| vl (nc rfl) <| vl (fa underlying44 rfl Ty.z39 rfl) <| vl (fa underlying39 rfl Ty.z33 rfl) <| vl (ldO hK Ty.o33 0 rfl rfl rfl) <| vl (ln underlying33 rfl hs.len) <| vl (mI rfl) <| nl <| thn <| bk <| ?_
    refine lp (σ := Nat × View × Value × Value × Own) (fun s => [(0, .pointer (some ⟨cb, 0, none⟩)), (75, W.l), (76, .int .i64 (ls.length : Int)), (77, .int .i64 (s.1 : Int))]) (fun s w => s.1 ≤ ls.length ∧ VLe G s.2.1 ∧ (lsT (ls.take s.1)).length ≤ 27 * s.1 ∧ Bu cb s.2.2.1 s.2.2.2.1 (out ++ lsT (ls.take s.1)) s.2.2.2.2 ∧ K e w s.2.1 ((cb, row (wc W ++ [s.2.2.1, s.2.2.2.1]) 44) :: (s.2.2.2.2 ++ L))) (fun s => ls.length - s.1) (0, G, p, bv, B) ⟨rfl, rfl, rfl, rfl, trivial⟩ ⟨Nat.zero_le _, VLe.refl _, Nat.le_refl _, by simpa [lsT] using hb, hK⟩ ?_
    clear hK hb hp1 hbv1
    rintro ⟨i, G1, p, bv, B⟩ g w ⟨hi, hG1, hll, hb, hK⟩
    simp only at hi hG1 hll hb hK
    have hs1 := EF.mono hs hG1
    refine sq <| rg <| ?_
    refine vl (lt rfl rfl) <| nl <| thn <| sq <| ?_
    refine cdP rfl (fun hc => ?_) fun hc => ?_
    ·have hi' : i < ls.length := by simp only at hc; omega
     have hx1 := hokl.at hi'
     have hal : (out ++ lsT (ls.take i)).length ≤ 1000000 := by rw [List.length_append]; omega
     have hst : out ++ lsT (ls.take i) ++ prT [] [ls[i].1, ls[i].2.1, ls[i].2.2] = out ++ lsT (ls.take (i + 1)) := by rw [lsT_take hi', prT_ls, List.append_assoc]
     have hnl := l1T_len hx1
     have htk := lsT_take hi'
     refine sk <| thn <| sq <| bk <| sq <| rg <| ?_
     refine vl (ixm (m := i) underlying33 Ty.s86 rfl hs1.1 rfl om om) <| vl (lsF hK Ty.a86 Ty.s86 rfl hs1 om) <| ?_
     refine al hK Ty.i86 rfl ?_
     intro b7 w hK
     refine soS hK Ty.i86 0 rfl rfl rfl rfl (by rfl) rfl ?_
     intro w hK
     refine nl <| thn <| rg <| vl mv <| vl (fa underlying86 rfl Ty.z3 rfl) <| vl (ldO hK Ty.o3 0 rfl rfl rfl) <| vl (fa underlying86 rfl Ty.z3 rfl) <| vl (ldO hK Ty.o3 0 rfl rfl rfl) <| vl (fa underlying86 rfl Ty.z3 rfl) <| vl (ldO hK Ty.o3 0 rfl rfl rfl) <| ?_
     refine bsN [.tmp 83, .tmp 85, .tmp 87] hK underlying35 Ty.i3 rfl rfl rfl rfl rfl rfl rfl rfl ?_
     intro b88 w hK
     replace hK : K e w G1 ([(b88, row (ints [ls[i].1, ls[i].2.1, ls[i].2.2]) 3)] ++ ((b7, row (lc ls[i]) 86) :: (cb, row (wc W ++ [p, bv]) 44) :: (B ++ L))) := hK
     obtain ⟨G2, hG2, hv2, hK⟩ := K.pubO (xs := [ls[i].1, ls[i].2.1, ls[i].2.2]) (v := .slice (some ⟨b88, 0, none⟩) 3 3) hK (OS.lit (m := 3) rfl (by decide))
     refine cl call19 rfl (print_c (xs := [ls[i].1, ls[i].2.1, ls[i].2.2]) (wd := []) (hT.mono (hG1.trans hG2)) hb hK.drop1 hv2 (by intro x hx; simp only [List.mem_cons, List.not_mem_nil, or_false] at hx; rcases hx with rfl | rfl | rfl <;> constructor <;> omega) (show 3 ≤ 100 by decide) (by decide) hal) ?_
     rintro _ w ⟨rfl, p', bv', B', hb2, hK⟩
     rw [hst] at hb2
     refine nl <| bkn <| thn <| rg <| vl (ad rfl rfl) <| vl (mI rfl) <| nl <| thn <| ?_
     exact ⟨(i + 1, G2, p', bv', B'), ⟨rfl, rfl, rfl, rfl, trivial⟩, ⟨hi', hG1.trans hG2, by simp only; rw [htk, List.length_append]; omega, hb2, hK⟩, by simp only; omega⟩
    ·have hi' : i = ls.length := by simp only at hc; omega
     subst hi'
     rw [List.take_length] at hb
     refine ex <| the <| the <| bkh <| bkn <| pp0n <| ?_
     exact ⟨G1, W, rs, p, bv, B, hG1, by rw [he.1]; exact hW.mono hG1, by rw [he.2]; exact hb, hK⟩
   ·refine sq <| rg <| ?_
    refine vl (seqE rfl rfl) <| vl (aB rfl) <| nl <| thn <| ?_
    refine cdP rfl (fun c4 => ?_) fun c4 => ?_
    ·have he := Prod.mk.inj (hr.symm.trans (lnH_owner (kd_of c4 (by decide)) c1 c2 c3 c4))
     obtain ⟨ow, hoe⟩ : ∃ o, ownF wd (numL (h :: ws) 1) = o := ⟨_, rfl⟩
     have hbd := ownF_bd hok (numL (h :: ws) 1)
     rw [hoe] at hbd he
     have hld : ∀ w, (∃ x y M, K e w G ((cb, row (wc W ++ [x, y]) 44) :: M)) → ∀ {dst ty pos af g} {f : Sl} {x : Operand}, ev Tryz.f30.ntmps f x = .pointer (some ⟨cb, 0, none⟩) → St prog Tryz.f30.ntmps ⟨dst, .load 39 x, ty, pos, af, g⟩ f w (.agg (wc W).toArray) w := by
      rintro w ⟨x, y, M, hK⟩ dst ty pos af g f z hz
      exact lsP (u := wc W) hK Ty.a39 Ty.s39 0 rfl hz rfl rfl
     refine rgs (fun w => ∃ x y M, K e w G ((cb, row (wc W ++ [x, y]) 44) :: M)) (fun w => K _ w _ _) [U,U,U,U,U,U,U,U,U,U] 10 Ty.mixed rfl rfl (hK.drawn _) ?_
     intro w hK
     have hS : (fun w => ∃ x y M, K e w G ((cb, row (wc W ++ [x, y]) 44) :: M)) w := (⟨_, _, _, hK⟩)
     refine xt (i := 0) rfl kr rfl rfl (fun w hK => mv) hS <| xt (i := 1) rfl kr rfl rfl (fun w hK => mv) hS <| xt (i := 2) rfl kr rfl rfl (fun w hK => (nc rfl)) hS <| xt (i := 3) rfl kr rfl rfl (fun w hK => (fa underlying44 rfl Ty.z39 rfl)) hS <| xt (i := 4) rfl kr rfl rfl (fun w hK => (hld _ hK rfl)) hS <| xt (i := 5) rfl kr rfl rfl (fun w hK => mv) hS <| ?_
     refine xe (i := 6) kr rfl rfl ?_
     refine cl call52 rfl (numberAt_c (k := 1) hK hv hlen) ?_
     rintro _ w ⟨rfl, G1, hG1, hK⟩
     refine xnk ((⟨_, _, _, K.vle hK hG1⟩)) fun hS => ?_
     refine xe (i := 7) kr rfl rfl ?_
     refine cl call51 rfl (WorldOwner_c hK (hW.mono hG1) (Nat.le_trans hzl (by decide))) ?_
     rintro _ w ⟨⟨n, rfl, _, hn1, hn2⟩, G2, hG2, hK⟩
     obtain rfl : n = ow := (ownF_eq hok hn1 hn2).trans hoe
     refine xnk ((⟨_, _, _, K.vle hK (hG1.trans hG2)⟩)) fun hS => ?_
     refine xe (i := 8) kr rfl rfl ?_
     refine bsN [.tmp 100] hK underlying35 Ty.i3 rfl rfl rfl rfl rfl rfl rfl rfl ?_
     intro b101 w hK
     refine xnk ((⟨_, _, _, K.vle hK.drop1 (hG1.trans hG2)⟩)) fun hS => ?_
     refine xe (i := 9) kr rfl rfl ?_
     replace hK : K e w G2 ([(b101, row (ints [n]) 3)] ++ ((cb, row (wc W ++ [p, bv]) 44) :: (B ++ L))) := hK
     obtain ⟨G3, hG3, hv3, hK⟩ := K.pubO (xs := [n]) (v := .slice (some ⟨b101, 0, none⟩) 1 1) hK (OS.lit (m := 1) rfl (by decide))
     refine cl call19 rfl (print_c (xs := [n]) (wd := []) (hT.mono ((hG1.trans hG2).trans hG3)) hb hK hv3 (by intro x hx; rw [List.mem_singleton.1 hx]; omega) (show 1 ≤ 100 by decide) (by decide) om) ?_
     rintro _ w ⟨rfl, p', bv', B', hb2, hK⟩
     rw [prT_1] at hb2
     refine xnk ((⟨_, _, _, K.vle hK ((hG1.trans hG2).trans hG3)⟩)) fun hS => ?_
     refine xd kr <| bkn <| pp0n <| ?_
     exact ⟨G3, W, rs, p', bv', B', (hG1.trans hG2).trans hG3, by rw [he.1]; exact hW.mono ((hG1.trans hG2).trans hG3), by rw [he.2]; exact hb2, hK⟩
    ·refine sq <| rg <| ?_
     refine vl mv <| vl (ixm1 (m := 0) underlying47 Ty.s9 rfl hv.1 rfl om om) <| vl (ldV hK Ty.o9 rfl hc0) <| ?_
     refine cl call53 rfl (eventKind_c hK) ?_
     rintro _ w ⟨rfl, G1, hG1, hK⟩
     refine vl (aI rfl) <| nl <| thn <| sq <| sq <| rg <| vl (mI rfl) <| vl (eq rfl rfl) <| nl <| thn <| ?_
     refine cdP rfl (fun c5 => ?_) fun c5 => ?_
     ·have he := hr.symm.trans (lnH_what (by omega) c1 c2 c3 c4)
      refine rg <| ?_
      refine vl (bd [] Ty.p90 Ty.i90 rfl trivial rfl) <| vl (mi ⟨_, underlying90, rfl⟩ rfl) <| ?_
      refine pnc rfl ?_
      exact ⟨he, ⟨_, _, rfl⟩, G1, W, rs, p, bv, B, hG1, hW.mono hG1, hb, hK⟩
     ·have hkn := kdL_nn h
      have h0 : 0 < kdL h := by omega
      have he := Prod.mk.inj (hr.symm.trans (lnH_ev h0))
      clear h0 hkn c5
      have hv1 := EF.mono hv hG1
      refine sk <| thn <| ?_
      refine rgs (fun w => K e w G1 L) (fun w => K _ w _ _) [U,U,U,U,U,U,U,U,U,U,U,U,U,U,U,U,U] 17 Ty.mixed rfl rfl (hK.drawn _) ?_
      intro w hK
      have hS : (fun w => K e w G1 L) w := K.sl hK
      refine xt (i := 0) rfl kr rfl rfl (fun w hK => mv) hS <| xt (i := 1) rfl kr rfl rfl (fun w hK => mv) hS <| xt (i := 2) rfl kr rfl rfl (fun w hK => (nc rfl)) hS <| xt (i := 3) rfl kr rfl rfl (fun w hK => (fa underlying44 rfl Ty.z39 rfl)) hS <| xt (i := 5) rfl kr rfl rfl (fun w hK => (mI rfl)) hS <| xt (i := 6) rfl kr rfl rfl (fun w hK => mv) hS <| xt (i := 8) rfl kr rfl rfl (fun w hK => mv) hS <| xt (i := 10) rfl kr rfl rfl (fun w hK => mv) hS <| ?_
      refine xe2 (i := 4) (j := 7) kr rfl rfl rfl rfl ?_ ?_
      ·refine vl (lsP (u := wc W) hK Ty.a39 Ty.s39 0 rfl rfl rfl rfl) <| ?_
       refine xnk (K.sl hK) fun hS => ?_
       refine xe (i := 7) kr rfl rfl ?_
       refine cl call52 rfl (numberAt_c (k := 1) hK hv1 hlen) ?_
       rintro _ w ⟨rfl, G2, hG2, hK⟩
       have hv2 := EF.mono hv1 hG2
       refine xnk ((K.vle (K.sl hK) hG2)) fun hS => ?_
       refine xe (i := 9) kr rfl rfl ?_
       refine cl call52 rfl (numberAt_c (k := 2) hK hv2 hlen) ?_
       rintro _ w ⟨rfl, G3, hG3, hK⟩
       have hv3 := EF.mono hv2 hG3
       refine xnk ((K.vle (K.sl hK) (hG2.trans hG3))) fun hS => ?_
       refine xe (i := 11) kr rfl rfl ?_
       refine cl call52 rfl (numberAt_c (k := 3) hK hv3 hlen) ?_
       rintro _ w ⟨rfl, G4, hG4, hK⟩
       have hv4 := EF.mono hv3 hG4
       refine xnk ((K.vle (K.sl hK) ((hG2.trans hG3).trans hG4))) fun hS => ?_
       refine xt (i := 12) rfl kr rfl rfl (fun w hK => (bd [(0, _), (1, _), (2, _), (3, _)] Ty.p78 Ty.i78 rfl ⟨⟨rfl, rfl⟩, ⟨rfl, rfl⟩, ⟨rfl, rfl⟩, ⟨rfl, rfl⟩, trivial⟩ rfl)) hS <| ?_
       refine xe (i := 13) kr rfl rfl ?_
       have hG14 := ((hG1.trans hG2).trans hG3).trans hG4
       refine cl call54 rfl (implWorldDo_c (hE.mono hG14) hK (hW.mono hG14) (Nat.le_trans hzl (by decide))) ?_
       rintro _ w ⟨G5, W5, q5, hG5, rfl, hW5, hK⟩
       refine xnk ((K.vle (K.sl hK) (((hG2.trans hG3).trans hG4).trans hG5))) fun hS => ?_
       refine xt (i := 14) rfl kr rfl rfl (fun w hK => (nc rfl)) hS <| xt (i := 15) rfl kr rfl rfl (fun w hK => (fa underlying44 rfl Ty.z39 rfl)) hS <| ?_
       refine xe (i := 16) kr rfl rfl ?_
       refine soS hK Ty.i39 0 rfl rfl rfl rfl (WdS.one hW5) rfl ?_
       intro w hK
       refine xnk ((K.vle (K.sl hK) (((hG2.trans hG3).trans hG4).trans hG5))) fun hS => ?_
       refine xd kr <| bkn <| pp0n <| ?_
       rw [wdF_yes hok] at hW5
       exact ⟨G5, W5, q5, p, bv, B, hG14.trans hG5, by rw [he.1]; exact hW5, by rw [he.2, List.append_nil]; exact hb, hK⟩
      ·skip
       refine cl call52 rfl (numberAt_c (k := 1) hK hv1 hlen) ?_
       rintro _ w ⟨rfl, G2, hG2, hK⟩
       have hv2 := EF.mono hv1 hG2
       refine xnk ((K.vle (K.sl hK) hG2)) fun hS => ?_
       refine xe2 (i := 4) (j := 9) kr rfl rfl rfl rfl ?_ ?_
       ·refine vl (lsP (u := wc W) hK Ty.a39 Ty.s39 0 rfl rfl rfl rfl) <| ?_
        refine xnk ((K.vle (K.sl hK) hG2)) fun hS => ?_
        refine xe (i := 9) kr rfl rfl ?_
        refine cl call52 rfl (numberAt_c (k := 2) hK hv2 hlen) ?_
        rintro _ w ⟨rfl, G3, hG3, hK⟩
        have hv3 := EF.mono hv2 hG3
        refine xnk ((K.vle (K.sl hK) (hG2.trans hG3))) fun hS => ?_
        refine xe (i := 11) kr rfl rfl ?_
        refine cl call52 rfl (numberAt_c (k := 3) hK hv3 hlen) ?_
        rintro _ w ⟨rfl, G4, hG4, hK⟩
        have hv4 := EF.mono hv3 hG4
        refine xnk ((K.vle (K.sl hK) ((hG2.trans hG3).trans hG4))) fun hS => ?_
        refine xt (i := 12) rfl kr rfl rfl (fun w hK => (bd [(0, _), (1, _), (2, _), (3, _)] Ty.p78 Ty.i78 rfl ⟨⟨rfl, rfl⟩, ⟨rfl, rfl⟩, ⟨rfl, rfl⟩, ⟨rfl, rfl⟩, trivial⟩ rfl)) hS <| ?_
        refine xe (i := 13) kr rfl rfl ?_
        have hG14 := ((hG1.trans hG2).trans hG3).trans hG4
        refine cl call54 rfl (implWorldDo_c (hE.mono hG14) hK (hW.mono hG14) (Nat.le_trans hzl (by decide))) ?_
        rintro _ w ⟨G5, W5, q5, hG5, rfl, hW5, hK⟩
        refine xnk ((K.vle (K.sl hK) (((hG2.trans hG3).trans hG4).trans hG5))) fun hS => ?_
        refine xt (i := 14) rfl kr rfl rfl (fun w hK => (nc rfl)) hS <| xt (i := 15) rfl kr rfl rfl (fun w hK => (fa underlying44 rfl Ty.z39 rfl)) hS <| ?_
        refine xe (i := 16) kr rfl rfl ?_
        refine soS hK Ty.i39 0 rfl rfl rfl rfl (WdS.one hW5) rfl ?_
        intro w hK
        refine xnk ((K.vle (K.sl hK) (((hG2.trans hG3).trans hG4).trans hG5))) fun hS => ?_
        refine xd kr <| bkn <| pp0n <| ?_
        rw [wdF_yes hok] at hW5
        exact ⟨G5, W5, q5, p, bv, B, hG14.trans hG5, by rw [he.1]; exact hW5, by rw [he.2, List.append_nil]; exact hb, hK⟩
       ·skip
        refine cl call52 rfl (numberAt_c (k := 2) hK hv2 hlen) ?_
        rintro _ w ⟨rfl, G3, hG3, hK⟩
        have hv3 := EF.mono hv2 hG3
        refine xnk ((K.vle (K.sl hK) (hG2.trans hG3))) fun hS => ?_
        refine xe2 (i := 4) (j := 11) kr rfl rfl rfl rfl ?_ ?_
        ·refine vl (lsP (u := wc W) hK Ty.a39 Ty.s39 0 rfl rfl rfl rfl) <| ?_
         refine xnk ((K.vle (K.sl hK) (hG2.trans hG3))) fun hS => ?_
         refine xe (i := 11) kr rfl rfl ?_
         refine cl call52 rfl (numberAt_c (k := 3) hK hv3 hlen) ?_
         rintro _ w ⟨rfl, G4, hG4, hK⟩
         have hv4 := EF.mono hv3 hG4
         refine xnk ((K.vle (K.sl hK) ((hG2.trans hG3).trans hG4))) fun hS => ?_
         refine xt (i := 12) rfl kr rfl rfl (fun w hK => (bd [(0, _), (1, _), (2, _), (3, _)] Ty.p78 Ty.i78 rfl ⟨⟨rfl, rfl⟩, ⟨rfl, rfl⟩, ⟨rfl, rfl⟩, ⟨rfl, rfl⟩, trivial⟩ rfl)) hS <| ?_
         refine xe (i := 13) kr rfl rfl ?_
         have hG14 := ((hG1.trans hG2).trans hG3).trans hG4
         refine cl call54 rfl (implWorldDo_c (hE.mono hG14) hK (hW.mono hG14) (Nat.le_trans hzl (by decide))) ?_
         rintro _ w ⟨G5, W5, q5, hG5, rfl, hW5, hK⟩
         refine xnk ((K.vle (K.sl hK) (((hG2.trans hG3).trans hG4).trans hG5))) fun hS => ?_
         refine xt (i := 14) rfl kr rfl rfl (fun w hK => (nc rfl)) hS <| xt (i := 15) rfl kr rfl rfl (fun w hK => (fa underlying44 rfl Ty.z39 rfl)) hS <| ?_
         refine xe (i := 16) kr rfl rfl ?_
         refine soS hK Ty.i39 0 rfl rfl rfl rfl (WdS.one hW5) rfl ?_
         intro w hK
         refine xnk ((K.vle (K.sl hK) (((hG2.trans hG3).trans hG4).trans hG5))) fun hS => ?_
         refine xd kr <| bkn <| pp0n <| ?_
         rw [wdF_yes hok] at hW5
         exact ⟨G5, W5, q5, p, bv, B, hG14.trans hG5, by rw [he.1]; exact hW5, by rw [he.2, List.append_nil]; exact hb, hK⟩
        ·skip
         refine cl call52 rfl (numberAt_c (k := 3) hK hv3 hlen) ?_
         rintro _ w ⟨rfl, G4, hG4, hK⟩
         have hv4 := EF.mono hv3 hG4
         refine xnk ((K.vle (K.sl hK) ((hG2.trans hG3).trans hG4))) fun hS => ?_
         refine xt (i := 12) rfl kr rfl rfl (fun w hK => (bd [(0, _), (1, _), (2, _), (3, _)] Ty.p78 Ty.i78 rfl ⟨⟨rfl, rfl⟩, ⟨rfl, rfl⟩, ⟨rfl, rfl⟩, ⟨rfl, rfl⟩, trivial⟩ rfl)) hS <| ?_
         refine xe (i := 4) kr rfl rfl ?_
         refine vl (lsP (u := wc W) hK Ty.a39 Ty.s39 0 rfl rfl rfl rfl) <| ?_
         refine xnk ((K.vle (K.sl hK) ((hG2.trans hG3).trans hG4))) fun hS => ?_
         refine xe (i := 13) kr rfl rfl ?_
         have hG14 := ((hG1.trans hG2).trans hG3).trans hG4
         refine cl call54 rfl (implWorldDo_c (hE.mono hG14) hK (hW.mono hG14) (Nat.le_trans hzl (by decide))) ?_
         rintro _ w ⟨G5, W5, q5, hG5, rfl, hW5, hK⟩
         refine xnk ((K.vle (K.sl hK) (((hG2.trans hG3).trans hG4).trans hG5))) fun hS => ?_
         refine xt (i := 14) rfl kr rfl rfl (fun w hK => (nc rfl)) hS <| xt (i := 15) rfl kr rfl rfl (fun w hK => (fa underlying44 rfl Ty.z39 rfl)) hS <| ?_
         refine xe (i := 16) kr rfl rfl ?_
         refine soS hK Ty.i39 0 rfl rfl rfl rfl (WdS.one hW5) rfl ?_
         intro w hK
         refine xnk ((K.vle (K.sl hK) (((hG2.trans hG3).trans hG4).trans hG5))) fun hS => ?_
         refine xd kr <| bkn <| pp0n <| ?_
         rw [wdF_yes hok] at hW5
         exact ⟨G5, W5, q5, p, bv, B, hG14.trans hG5, by rw [he.1]; exact hW5, by rw [he.2, List.append_nil]; exact hb, hK⟩
end
open Go Go.Ro Tryz
section
variable {e w : World} {G : View} {L A B : Own} {v u bv p : Value} {xs : List Int} {rs qs : List Rn} {W W' : Wv} {wd wd' : Wd} {k n : Int} {l out h : List UInt8} {ws : List (List UInt8)} {cb b2 : Nat} {a0 a1 : Addr}
theorem whatR (hT : Tab G) (ho : out.length ≤ 1000000) (hR : ConR e G L cb wd out w) :
  Ret prog 19 #[.pointer (some ⟨cb, 0, none⟩), Sv tWhat, .slice none 0 0] w (fun r w' => r = .tuple #[] ∧ ConR e G L cb wd (out ++ (tWhat ++ [10])) w') := by
 obtain ⟨G1, W, rs, p, bv, B, hG1, hW, hb, hK⟩ := hR
 refine (print_c (xs := []) (wd := tWhat) (hT.mono hG1) hb hK nil_row (by simp) (by decide) (by decide) ho).mono ?_
 rintro r w' ⟨rfl, p', bv', B', hb', hK'⟩
 rw [prT_w (by decide)] at hb'
 exact ⟨rfl, G1, W, rs, p', bv', B', hG1, hW, hb', hK'⟩
theorem ConR.mem {x : Nat × Obj} (hR : ConR e G L cb wd out w) (hx : x ∈ L) : w.heap[x.1]? = some x.2 := by
 obtain ⟨G1, W, rs, p, bv, B, _, _, _, hK⟩ := hR
 exact hK.own _ _ (List.mem_cons_of_mem _ (List.mem_append_right _ hx))
def Reg2 (fn : Func) : Array Oper := match fn.body with
 | some (.seq _ (.seq _ (.cond _ (.region _ ops _) _))) => ops
 | _ => #[]
theorem act7 (x v : Value) : ({ tmps := #[x] ++ ((((Array.replicate 6 undef).setIfInBounds 1 v).setIfInBounds 0 v).setIfInBounds 2 v).setIfInBounds 3 (.bool true), defers := [] } : Act) = mkA 7 (ini [x, v, v, v, .bool true, undef, undef]) := by
 unfold mkA
 congr 1
 have h7 : Array.range 7 = #[0, 1, 2, 3, 4, 5, 6] := by decide
 rw [h7]
 have hm : Array.map (ini [x, v, v, v, .bool true, undef, undef]) #[0, 1, 2, 3, 4, 5, 6] = #[x, v, v, v, .bool true, undef, undef] := by simp [ini]
 have hr : Array.replicate 6 undef = #[undef, undef, undef, undef, undef, undef] := rfl
 rw [hm, hr]
 simp
theorem line1_pan (T : TypeId) (pv : Value) (older : List PanicEntry) (hT : Tab G) (ho : out.length ≤ 1000000) (hn : (b2, row [.pointer (some ⟨cb, 0, none⟩)] 31) ∈ L) (hR : ConR e G L cb wd out w) :
  CallsD prog 29 #[.pointer (some ⟨b2, 0, none⟩)] (.panicking ({ v := .iface T pv, recovered := false } :: older)) w fun e' u' w' =>
   e' = .returned (.tuple #[]) ∧ u' = .panicking ({ v := .iface T pv, recovered := true } :: older) ∧ ConR e G L cb wd (out ++ (tWhat ++ [10])) w' := by
 refine callsD_of_wpS func29 rfl fun c₀ cs hu => ?_
 apply wpS_seq
 apply wpS_region
 simp [wpOpsS, go_sem, recoverD, hu, Exit.thenS]
 apply wpS_seq
 apply wpS_region
 simp [wpOpsS, go_sem, Exit.thenS]
 refine wpS_cond (t := true) (by simp [Act.eval]) ?_
 simp only [if_true]
 refine wpS_of_wp ?_
 have hw : W prog 7 (.region 2 (Reg2 Tryz.f29) false) (fun e1 _ w => e1 = .normal ∧ ConR e G L cb wd (out ++ (tWhat ++ [10])) w) (ini [.pointer (some ⟨b2, 0, none⟩), .iface T pv, .iface T pv, .iface T pv, .bool true, undef, undef]) w := by
  refine rg <| vl (ldC Ty.o31 rfl (row_cell (l := [.pointer (some ⟨cb, 0, none⟩)]) (hR.mem hn))) <| ?_
  refine cl call19 rfl (whatR hT ho hR) ?_
  rintro _ w ⟨rfl, hR⟩
  exact nl ⟨rfl, hR⟩
 rw [act7]
 refine wp_mono hw ?_
 rintro e1 a w1 ⟨g, rfl, rfl, hR⟩
 exact ⟨rfl, _, rfl, _, results_none rfl _ _ _, rfl, rfl, hR⟩
theorem line1_idle : CallsD prog 29 #[.pointer (some ⟨b2, 0, none⟩)] .returning w fun e' u' w' =>
   e' = .returned (.tuple #[]) ∧ u' = .returning ∧ w' = w := by
 refine callsD_of_wpS func29 rfl fun c₀ cs hu => ?_
 apply wpS_seq
 apply wpS_region
 simp [wpOpsS, go_sem, recoverD, hu, Exit.thenS]
 apply wpS_seq
 apply wpS_region
 simp [wpOpsS, go_sem, Exit.thenS]
 refine wpS_cond (t := false) (by simp [Act.eval]) ?_
 simp only [Bool.false_eq_true, if_false]
 refine wpS_of_wp (wp_skip ?_)
 cases c₀
 simp_all [bodyPostS, results, Tryz.results29]
theorem ConR.low {G' : View} (h : ConR e G' L cb wd out w) (hG : VLe G G') : ConR e G L cb wd out w := by
 obtain ⟨G1, W, rs, p, bv, B, hG1, hW, hb, hK⟩ := h
 exact ⟨G1, W, rs, p, bv, B, hG.trans hG1, hW, hb, hK⟩
theorem ConR.drop2 {x : Nat × Obj} (h : ConR e G (x :: L) cb wd out w) : ConR e G L cb wd out w := by
 obtain ⟨G1, W, rs, p, bv, B, hG1, hW, hb, hK⟩ := h
 exact ⟨G1, W, rs, p, bv, B, hG1, hW, hb, K.sl hK (List.Sublist.cons_cons _ (List.Sublist.append_left (List.sublist_cons_self ..) _))⟩
set_option maxHeartbeats 1000000 in
theorem line_c (hE : ErrS 252 6 7 G a0 a1) (hT : Tab G) (hok : WdOk wd) (ho : out.length ≤ 500000) (hl : l.length ≤ 100000) (hW : WdS G lc W wd rs) (hb : Bu cb p bv out B) (hK : K e w G ((cb, row (wc W ++ [p, bv]) 44) :: (B ++ L))) :
  Ret prog 17 #[.pointer (some ⟨cb, 0, none⟩), Sv l] w (fun r w' => r = .tuple #[] ∧ ConR e G L cb (lnW wd l).1 (out ++ (lnW wd l).2) w') := by
 obtain ⟨h, ws, hct⟩ := ct_cons 32 l
 have hlw : lnW wd l = lnH wd (h :: ws) h := lnW_H hct
 rw [hlw]
 have hlen : ∀ x ∈ h :: ws, x.length ≤ 1000000 := fun x hx => by
  rw [← hct] at hx
  have := ct_piece hx; omega
 refine enterDf (n := Tryz.f17.ntmps) (args := [.pointer (some ⟨cb, 0, none⟩), Sv l]) func17 rfl rfl rfl ?_
 refine sqA (rg ?_)
 refine bx hK rfl rfl ?_
 intro b2 w hK
 refine nl ⟨rfl, ?_⟩
 refine wp_seq (wp_region_lit ?_)
 refine valA rfl (mkf rfl) <| dfC (F := 29) (cap := #[.pointer (some ⟨b2, 0, none⟩)]) rfl ?_
 replace hK : K e w G ((b2, row [.pointer (some ⟨cb, 0, none⟩)] 31) :: (cb, row (wc W ++ [p, bv]) 44) :: (B ++ L)) := hK
 refine rgP (C := fun w => K e w G ((b2, row [.pointer (some ⟨cb, 0, none⟩)] 31) :: (cb, row (wc W ++ [p, bv]) 44) :: (B ++ L))) (fun w => w.heap[b2]? = some (row [.pointer (some ⟨cb, 0, none⟩)] 31))
  (fun w => ConR e G ((b2, row [.pointer (some ⟨cb, 0, none⟩)] 31) :: L) cb (lnH wd (h :: ws) h).1 (out ++ (lnH wd (h :: ws) h).2) w)
  (fun ch w => lnH wd (h :: ws) h = (wd, tWhat ++ [10]) ∧ (∃ T pv, ch = [{ v := .iface T pv, recovered := false }]) ∧ ConR e G ((b2, row [.pointer (some ⟨cb, 0, none⟩)] 31) :: L) cb wd out w)
  [U,U,U,U] Ty.mixed rfl rfl (hK.drawn _) ?_ ?_ ?_
 ·intro w hK
  have hS := hK.own b2 _ (List.mem_cons_self ..)
  refine xtP (i := 0) rfl kr rfl rfl (fun w hw => ldC Ty.o31 rfl (row_cell hw)) hS ?_
  refine xtP (i := 1) rfl kr rfl rfl (fun w _ => mv) hS ?_
  refine xcP (i := 2) kr rfl rfl call16 rfl (split_c (c := 32) (l := l) (by omega) hK) ?_
  rintro v w ⟨A, hoA, hK⟩
  rw [hct] at hoA
  obtain ⟨G1, hG1, hv, hK⟩ := K.pubE (c := sc) (fun _ => rfl) hK hoA
  have hS := hK.own b2 _ (List.mem_cons_self ..)
  refine ⟨hS, ?_⟩
  replace hK : K e w G1 ((cb, row (wc W ++ [p, bv]) 44) :: (B ++ ((b2, row [.pointer (some ⟨cb, 0, none⟩)] 31) :: L))) := hK.cnt fun f => by simp only [List.map_append, List.map_cons, List.sum_append, List.sum_cons]; omega
  refine xpP (i := 3) kr rfl rfl call30 rfl (command_c (hE.mono hG1) (hT.mono hG1) (hW.mono hG1) hok hb ho hv hlen hK) ?_ ?_
  ·intro w hR
   exact ⟨hR.mem (List.mem_cons_self ..), xdP kr (hR.low hG1)⟩
  ·rintro ch w ⟨he, ht, hR⟩
   exact ⟨he, ht, hR.low hG1⟩
 ·intro a w hd hR
  show Leaves _ _ a.tmps _ a.defers .returning w
  rw [hd]
  refine leaves_cons (f := 29) (args := #[.pointer (some ⟨b2, 0, none⟩)]) (by simp) (by simp [go_sem]) ?_
  refine line1_idle.mono ?_
  rintro e' u' w' ⟨rfl, rfl, rfl⟩
  exact ⟨_, results_none rfl _ _ _, _, rfl, rfl, hR.drop2⟩
 ·rintro ch a w hd ⟨he, ⟨T, pv, rfl⟩, hR⟩
  show Leaves _ _ a.tmps _ a.defers (.panicking _) w
  rw [hd]
  refine leaves_cons (f := 29) (args := #[.pointer (some ⟨b2, 0, none⟩)]) (by simp) (by simp [go_sem]) ?_
  refine (line1_pan T pv [] hT (by omega) (List.mem_cons_self ..) hR).mono ?_
  rintro e' u' w' ⟨rfl, rfl, hR⟩
  refine ⟨_, results_none rfl _ _ _, _, rfl, rfl, ?_⟩
  rw [he]; exact hR.drop2
end
end Go.Proofs.YtbiihblpgfgaoabGreatDoor
