/- Contracts of functions on strings: the program's scripts. The laws on scripts: what each returns. The variables that the laws on scripts list, laid as the rows say. Conditions: those that each row states. -/
import Derived.Test.YtbiihblpgfgaoabGreatDoorXj
import Derived.Test.YtbiihblpgfgaoabGreatDoorDw
import Derived.Test.YtbiihblpgfgaoabGreatDoorXf
import Derived.Test.YtbiihblpgfgaoabGreatDoorEvM
import Derived.Test.YtbiihblpgfgaoabGreatDoorXh
import Derived.Test.YtbiihblpgfgaoabGreatDoorEr
import Derived.Test.YtbiihblpgfgaoabGreatDoorPlM
import Derived.Test.YtbiihblpgfgaoabGreatDoorRows
import Derived.ChangeSame
import Derived.ChangeVars
import Derived.JoinedOf
import Derived.RowKit
import Derived.RowKitTokens
import Derived.LaidLaws
import Derived.Lib.LaidTab
import Derived.Stop.LaidErr
import Derived.Stop.ErrReads
import Derived.Below
import Derived.KernelRfl
namespace Go.Proofs.YtbiihblpgfgaoabGreatDoor
open Go Go.Ro _root_.Go.Proofs.Tryz
section
variable {e w : World} {G : View} {L A B : Own} {v u bv p : Value} {xs : List Int} {rs qs : List Rn} {W W' : Wv} {wd wd' : Wd} {k n : Int} {l out h : List UInt8} {ws : List (List UInt8)} {cb b2 : Nat} {a0 a1 : Addr}
theorem prT_sc (n : Int) (ks : List Int) : prT tScan ([n] ++ ks) = scP n ks ++ [10] := by
 have h1 : hdP tScan = [tScan] := if_neg (by decide)
 have h2 : ∀ ks : List Int, Lib.joinTail [32] (ks.map num) = ks.flatMap sc1 := by
  intro ks
  induction ks with
  | nil => rfl
  | cons x ks ih =>
   unfold Lib.joinTail at ih ⊢
   rw [List.map_cons, List.map_cons, List.flatten_cons, ih, List.flatMap_cons]; rfl
 have h3 : Lib.joinTail [32] (([n] ++ ks).map num) = ([n] ++ ks).flatMap sc1 := h2 _
 unfold prT
 rw [h1, List.singleton_append, Lib.join_cons, h3]
 unfold scP
 rw [List.flatMap_append]
 simp [sc1]
set_option maxHeartbeats 2000000 in
theorem implExecute_c (hE : ErrS 252 6 7 G a0 a1) (hT : Tab G) (hl : l.length ≤ 2000000) (hK : K e w G L) : Ret prog 8 #[Sv l] w (fun r w' => r = Sv (exT l) ∧ ∃ G', VLe G G' ∧ K e w' G' L) := by
 refine enter1 (args := [Sv l]) func8 rfl rfl rfl rfl ?_
 refine sq <| rg <| ?_
 refine vl asg <| nl <| thn <| sq <| sq <| rg <| vl mv <| vl (sln underlying9 rfl) <| vl (gt rfl rfl) <| nl <| thn <| ?_
 refine cdP rfl (fun h0 => ?_) fun h0 => ?_
 ·refine sq <| rg <| ?_
  refine vl asg <| nl <| thn <| rt <| thr <| p1r (a := _) rfl <| ?_
  exact ⟨by rw [exT_long (by omega)]; rfl, _, VLe.refl _, hK⟩
 ·have hl : l.length ≤ 600 := by omega
  obtain ⟨res, hres⟩ : ∃ r, exT l = r := ⟨_, rfl⟩
  rw [hres]
  rw [exT_short hl] at hres
  refine sk <| thn <| sq <| rg <| ?_
  refine vl (bd [] Ty.p44 Ty.i44 rfl trivial rfl) <| ?_
  refine bx hK rfl rfl ?_
  intro b14 w hK
  refine vl asg <| nl <| thn <| sq <| rg <| vl mv <| ?_
  refine bsN [.const (.int .i64 5), .const (.int .i64 20), .const (.int .i64 35), .const (.int .i64 50)] hK underlying35 Ty.i3 rfl rfl rfl rfl rfl rfl rfl rfl ?_
  intro b17 w hK
  replace hK : K e w G ([(b17, row (ints ids0) 3)] ++ ((b14, row (wc ⟨0, .slice none 0 0, .slice none 0 0, .slice none 0 0, 0, .slice none 0 0, .slice none 0 0⟩ ++ [.pointer none, .slice none 0 0]) 44) :: L)) := hK
  obtain ⟨G1, hG1, hv, hK⟩ := K.pubO (xs := ids0) (v := .slice (some ⟨b17, 0, none⟩) 4 4) hK (OS.lit (m := 4) rfl (by decide))
  refine cl call15 rfl (implWorldNew_c hK hv) ?_
  rintro _ w ⟨G2, W, wd, rs, b, rfl, hG2, hW, hb, hwd, hK⟩
  obtain rfl : b = true := hb.2 ⟨ids0_ok, by decide⟩
  obtain rfl : wd = newW ids0 := hwd
  refine vl mv <| vl (ext rfl rfl) <| vl (ext rfl rfl) <| vl (nc rfl) <| vl (fa underlying44 rfl Ty.z39 rfl) <| ?_
  refine soS hK Ty.i39 0 rfl rfl rfl rfl (WdS.one hW) rfl ?_
  intro w hK
  refine nl <| thn <| sq <| rg <| vl mv <| ?_
  replace hK : K e w G2 ((b14, row (wc W ++ [.pointer none, .slice none 0 0]) 44) :: L) := hK
  refine cl call16 rfl (split_c (c := 10) (l := l) om hK) ?_
  rintro v w ⟨A, ho, hK⟩
  obtain ⟨G3, hG3, hu, hK⟩ := K.pubE (c := sc) (fun _ => rfl) hK ho
  have hlen := ctA_len 10 l []
  have hcl : ctA 10 [] l = ctL 10 l := rfl
  rw [hcl] at hlen
  have hbl : ∀ x ∈ ctL 10 l, x.length ≤ 100000 := fun x hx => by have := ct_piece hx; omega
  generalize ctL 10 l = ls at *
  have hbl2 : ∀ x ∈ ls.dropLast, x.length ≤ 100000 := fun x hx => hbl x (List.dropLast_subset _ hx)
  have hdl : ls.dropLast.length = ls.length - 1 := List.length_dropLast
  have hd : StrS G3 (slc v 0 (ls.length - 1) 1) ls.dropLast := by
   have := SlR.slc hu (Nat.zero_le (ls.length - 1)) (by omega)
   rw [List.drop_zero] at this
   rw [List.dropLast_eq_take]; exact this
  have hG13 := (hG1.trans hG2).trans hG3
  have hR : ConR e G3 L b14 (runL (ls.dropLast.take 0)).1 (runL (ls.dropLast.take 0)).2 w :=
   ⟨G3, W, rs, .pointer none, .slice none 0 0, [], VLe.refl _, hW.mono hG3, ⟨.inl rfl, OS.nil 1 5⟩, hK⟩
  generalize ls.dropLast = ds at *
  refine vl asg <| nl <| thn <| sq <| sq <| rg <| vl mv <| vl mv <| vl (ln underlying47 rfl hu.len) <| vl (sb rfl rfl) <| vl (slHi (h := ls.length - 1) underlying47 Ty.s9 rfl hu.1 (by exact congrArg (Value.int .i64) om) om) <| vl (ln underlying47 rfl hd.len) <| vl (mI rfl) <| nl <| thn <| ?_
  refine bk <| ?_
  refine lp (σ := Nat) (fun i => [(3, .pointer (some ⟨b14, 0, none⟩)), (29, slc v 0 (ls.length - 1) 1), (30, .int .i64 (ds.length : Int)), (31, .int .i64 (i : Int))]) (fun i w => i ≤ ds.length ∧ ConR e G3 L b14 (runL (ds.take i)).1 (runL (ds.take i)).2 w) (fun i => ds.length - i) 0 ⟨rfl, rfl, rfl, rfl, trivial⟩ ⟨Nat.zero_le _, hR⟩ ?_
  clear hK hW hR
  rintro i g w ⟨hi, hR⟩
  refine sq <| rg <| ?_
  refine vl (lt rfl rfl) <| nl <| thn <| sq <| ?_
  refine cdP rfl (fun hc => ?_) fun hc => ?_
  ·have hi' : i < ds.length := by omega
   obtain ⟨G4, W4, q4, p, bv, B, hG4, hW4, hb4, hK⟩ := hR
   have hd4 := EF.mono hd hG4
   have hcl := StrS.cell hd4 hi'
   have ht := runL_take hi'
   have hl4 := runL_len (ds.take i)
   rw [List.length_take] at hl4
   refine sk <| thn <| sq <| bk <| sq <| rg <| ?_
   refine vl (ixm1 (m := i) underlying47 Ty.s9 rfl hd4.1 rfl om om) <| vl (ldV hK Ty.o9 rfl hcl) <| vl asg <| nl <| thn <| rg <| vl mv <| vl mv <| ?_
   refine cl call17 rfl (line_c (hE.mono (hG13.trans hG4)) (hT.mono (hG13.trans hG4)) (runL_ok _) om (hbl2 _ (List.getElem_mem hi')) hW4 hb4 hK) ?_
   rintro _ w ⟨rfl, hR⟩
   refine nl <| bkn <| thn <| rg <| vl (ad rfl rfl) <| vl (mI rfl) <| nl <| thn <| ?_
   exact ⟨i + 1, ⟨rfl, rfl, rfl, rfl, trivial⟩, ⟨hi', by rw [ht]; exact hR.low hG4⟩, by omega⟩
  ·have hi' : i = ds.length := by omega
   subst hi'
   rw [List.take_length] at hR
   have hok := runL_ok ds
   have hol := runL_len ds
   have hrb : res.length ≤ 10000000 := by
    have := outL_bd ds
    rw [← hres]; omega
   have hres2 : res = (runL ds).2 ++ stT (runL ds).1 := hres.symm
   clear hres
   obtain ⟨G4, W4, q4, p, bv, B, hG4, hW4, hb4, hK⟩ := hR
   generalize (runL ds).2 = out at *
   generalize (runL ds).1 = wd at *
   have hT4 := hT.mono (hG13.trans hG4)
   have hi0 := hW4.items
   have ht0 := hW4.told
   have hnx : W4.next = wd.scan.1 := hW4.next
   have hio := hok.2.2.2.1
   obtain ⟨hn, hsa, _⟩ := hok.2.2.2.2.1
   have hil := it_len hio
   have hsl := hsa.len
   have hst : stT wd = itT wd.items ++ [10] ++ (scP wd.scan.1 wd.scan.2 ++ [10]) := rfl
   rw [hst, ← hnx] at hres2
   rw [← hnx] at hn
   obtain ⟨zs, hzs⟩ : ∃ zs, wd.items = zs := ⟨_, rfl⟩
   obtain ⟨ks, hks⟩ : ∃ ks, wd.scan.2 = ks := ⟨_, rfl⟩
   rw [hzs] at hi0 hio hil hres2
   rw [hks] at ht0 hsa hsl hres2
   refine ex <| the <| the <| bkh <| thn <| sq <| rg <| ?_
   refine vl asg <| nl <| thn <| sq <| sq <| rg <| vl mv <| vl (nc rfl) <| vl (fa underlying44 rfl Ty.z39 rfl) <| vl (fa underlying39 rfl Ty.z34 rfl) <| vl (ldO hK Ty.o34 0 rfl rfl rfl) <| vl (ln underlying34 rfl hi0.len) <| vl (mI rfl) <| nl <| thn <| ?_
   refine bk <| ?_
   refine lp (σ := Nat) (fun i => [(3, .pointer (some ⟨b14, 0, none⟩)), (7, Sv (itT (zs.take i))), (43, W4.i), (44, .int .i64 (zs.length : Int)), (45, .int .i64 (i : Int))]) (fun i w => i ≤ zs.length ∧ (itT (zs.take i)).length ≤ 5 + 18 * i ∧ K e w G4 ((b14, row (wc W4 ++ [p, bv]) 44) :: (B ++ L))) (fun i => zs.length - i) 0 ⟨rfl, rfl, rfl, rfl, rfl, trivial⟩ ⟨Nat.zero_le _, Nat.le_refl _, hK⟩ ?_
   clear hK
   rintro i g w ⟨hi, hll, hK⟩
   refine sq <| rg <| ?_
   refine vl (lt rfl rfl) <| nl <| thn <| sq <| ?_
   refine cdP rfl (fun hc2 => ?_) fun hc2 => ?_
   ·have hi' : i < zs.length := by omega
    have hm : zs[i] ∈ zs := List.getElem_mem _
    have h1 := hio.1 _ hm
    have h2 : Pt zs[i].1 := hio.2.1 _ (List.mem_map_of_mem (f := (·.1)) hm)
    have n1 := num_len (n := zs[i].1) (by omega) (by omega)
    have n2 := num_len (n := zs[i].2) (by omega) (by omega)
    have htk := itT_take hi'
    have hitl := it1_len hio hm
    refine sk <| thn <| sq <| bk <| sq <| rg <| ?_
    refine vl (ixm (m := i) underlying34 Ty.s51 rfl hi0.1 rfl om om) <| vl (lsF hK Ty.a51 Ty.s51 rfl hi0 om) <| ?_
    refine al hK Ty.i51 rfl ?_
    intro b9 w hK
    refine soS hK Ty.i51 0 rfl rfl rfl rfl (by rfl) rfl ?_
    intro w hK
    refine nl <| thn <| ?_
    replace hK : K e w G4 ((b9, row (ic zs[i]) 51) :: (b14, row (wc W4 ++ [p, bv]) 44) :: (B ++ L)) := hK
    refine rgq (fun w => K _ w _ _) Ty.mixed kr (hK.drawn _) ?_
    refine qv (fun w hK => mv) <| qv (fun w hK => (fa underlying51 rfl Ty.z3 rfl)) <| qldO Ty.o3 0 rfl rfl rfl <| ?_
    refine qcl call18 rfl (fun w hK => itoa_c hT4 om om hK) ?_
    refine qv (fun w hK => (sad rfl rfl (by first | omega | (simp; omega)))) <| qv (fun w hK => (sad rfl rfl (by first | omega | (simp; omega)))) <| qv (fun w hK => (fa underlying51 rfl Ty.z3 rfl)) <| qldO Ty.o3 0 rfl rfl rfl <| ?_
    refine qcl call18 rfl (fun w hK => itoa_c hT4 om om hK) ?_
    refine qv (fun w hK => (sad rfl rfl (by first | omega | (simp; omega)))) <| qv (fun w hK => (sad rfl rfl (by first | omega | (simp; omega)))) <| qv (fun w hK => asg) <| qn <| ?_
    intro w hK
    refine bkn <| thn <| rg <| vl (ad rfl rfl) <| vl (mI rfl) <| nl <| thn <| ?_
    refine ⟨i + 1, ⟨rfl, ?_, rfl, rfl, rfl, trivial⟩, ⟨hi', by rw [htk, List.length_append]; omega, hK.drop1⟩, by omega⟩
    rw [htk]
    show Sv _ = Sv _
    exact congrArg Sv (by unfold it1; simp only [List.append_assoc])
   ·have hi' : i = zs.length := by omega
    subst hi'
    rw [List.take_length] at hll ⊢
    have hine : itT zs ≠ [] := by unfold itT tItems; simp
    have hld : ∀ w, (∃ x y M, K e w G4 ((b14, row (wc W4 ++ [x, y]) 44) :: M)) → w.cell? ⟨b14, 4, none⟩ = some (.int .i64 W4.next) ∧ w.cell? ⟨b14, 5, none⟩ = some W4.t := by
     rintro w ⟨x, y, M, hK⟩
     have h := hK.own b14 _ (List.mem_cons_self ..)
     exact ⟨(row_cell h).trans rfl, (row_cell h).trans rfl⟩
    have hxs : ∀ x ∈ [W4.next] ++ ks, -1000000 ≤ x ∧ x ≤ 1000000 := by
     intro x hx
     rcases List.mem_append.1 hx with hx | hx
     ·rw [List.mem_singleton.1 hx]; omega
     ·have := hsa.1 x hx; omega
    refine ex <| the <| the <| bkh <| thn <| sq <| rg <| ?_
    refine vl mv <| vl mv <| ?_
    refine cl call19 rfl (print_c (xs := []) (wd := itT zs) hT4 hb4 hK nil_row (by simp) (by decide) om om) ?_
    rintro _ w ⟨rfl, p2, bv2, B2, hb5, hK⟩
    rw [prT_w hine] at hb5
    refine nl <| thn <| sq <| ?_
    refine rgs (fun w => ∃ x y M, K e w G4 ((b14, row (wc W4 ++ [x, y]) 44) :: M)) (fun w => K _ w _ _) [U,U,U,U,U,U,U,U,U,U,U,U,U,U,U,U] 16 Ty.mixed rfl rfl (hK.drawn _) ?_
    intro w hK
    have hS : (fun w => ∃ x y M, K e w G4 ((b14, row (wc W4 ++ [x, y]) 44) :: M)) w := (by first | exact ⟨_, _, _, hK⟩ | exact ⟨_, _, _, hK.drop1⟩)
    refine xt (i := 0) rfl kr rfl rfl (fun w hK => mv) hS <| xt (i := 1) rfl kr rfl rfl (fun w hK => mv) hS <| xt (i := 2) rfl kr rfl rfl (fun w hK => (nc rfl)) hS <| xt (i := 3) rfl kr rfl rfl (fun w hK => (fa underlying44 rfl Ty.z39 rfl)) hS <| xt (i := 4) rfl kr rfl rfl (fun w hK => (fa underlying39 rfl Ty.z37 rfl)) hS <| xt (i := 5) rfl kr rfl rfl (fun w hK => (fa underlying37 rfl Ty.z3 rfl)) hS <| xt (i := 6) rfl kr rfl rfl (fun w hK => (ldC Ty.o3 rfl (hld _ hK).1)) hS <| xt (i := 8) rfl kr rfl rfl (fun w hK => mv) hS <| xt (i := 9) rfl kr rfl rfl (fun w hK => (nc rfl)) hS <| xt (i := 10) rfl kr rfl rfl (fun w hK => (fa underlying44 rfl Ty.z39 rfl)) hS <| xt (i := 11) rfl kr rfl rfl (fun w hK => (fa underlying39 rfl Ty.z37 rfl)) hS <| xt (i := 12) rfl kr rfl rfl (fun w hK => (fa underlying37 rfl Ty.z35 rfl)) hS <| xt (i := 13) rfl kr rfl rfl (fun w hK => (ldC Ty.o35 rfl (hld _ hK).2)) hS <| ?_
    refine xe (i := 7) kr rfl rfl ?_
    refine bsN [.tmp 70] hK underlying35 Ty.i3 rfl rfl rfl rfl rfl rfl rfl rfl ?_
    intro b71 w hK
    refine xnk ((by first | exact ⟨_, _, _, hK⟩ | exact ⟨_, _, _, hK.drop1⟩)) fun hS => ?_
    refine xe (i := 14) kr rfl rfl ?_
    replace hK : K e w G4 ([(b71, row (ints [W4.next]) 3)] ++ ((b14, row (wc W4 ++ [p2, bv2]) 44) :: (B2 ++ L))) := hK
    refine apI (xs := [W4.next]) hK underlying35 Ty.i3 rfl rfl (OS.lit (m := 1) rfl (by decide)) rfl ht0 (by simp; omega) fun v5 A5 w ho5 hK => ?_
    obtain ⟨G5, hG5, hv5, hK⟩ := K.pubO hK ho5
    refine xnk ((⟨_, _, _, K.vle hK hG5⟩)) fun hS => ?_
    refine xe (i := 15) kr rfl rfl ?_
    refine cl call19 rfl (print_c (xs := [W4.next] ++ ks) (wd := tScan) (hT4.mono hG5) hb5 hK hv5 hxs (by simp; omega) (by decide) (by rw [List.length_append, List.length_append, List.length_singleton]; omega)) ?_
    rintro _ w ⟨rfl, p3, bv3, B3, hb6, hK⟩
    rw [prT_sc] at hb6
    have hrl : res = out ++ (itT zs ++ [10]) ++ (scP W4.next ks ++ [10]) := by rw [hres2]; simp only [List.append_assoc]
    rw [← hrl] at hb6
    refine xnk ((⟨_, _, _, K.vle hK hG5⟩)) fun hS => ?_
    refine xd kr <| thn <| sq <| rg <| vl mv <| vl (nc rfl) <| vl (fa underlying44 rfl Ty.z42 rfl) <| ?_
    refine cl call20 rfl (String_c hb6 hK (by rw [hrl]; simp) hrb) ?_
    rintro _ w ⟨rfl, hK⟩
    refine vl asg <| nl <| thn <| rt <| p1r (a := _) rfl <| ?_
    exact ⟨rfl, G5, (hG13.trans hG4).trans hG5, hK.drop1⟩
end
open Go Go.Ro _root_.Go.Proofs.Tryz
section
variable {e w : World} {G : View} {L A B : Own} {v u cva : Value} {code : List Int} {l o : List UInt8} {a0 a1 : Addr}
theorem implEx {o : List UInt8} (ho : exT l = o) (hE : ErrS 252 6 7 G a0 a1) (hT : Tab G) (hl : l.length ≤ 2000000) (hK : K e w G L) : Ret prog 8 #[Sv l] w (fun r w' => r = Sv o ∧ ∃ G', VLe G G' ∧ K e w' G' L) := by
 subst ho; exact implExecute_c hE hT hl hK
theorem specEx {o : List UInt8} (ho : exT l = o) (hK : K e w G L) : Ret prog 9 #[Sv l] w (fun r w' => r = Sv o ∧ ∃ G', VLe G G' ∧ K e w' G' L) := by
 subst ho; exact specExecute_c hK
set_option maxHeartbeats 1000000 in
set_option maxHeartbeats 1000000 in
theorem FnExecutePut_c (hK : K e w G L) (hE : ErrS 252 6 7 G a0 a1) (hT : Tab G) (hc : BytS G cva code) : Ret prog 3 #[cva] w (fun r w' => r = .bool true ∧ ∃ G' L', K e w' G' L' ∧ VLe G G') := by
 refine enter1 (args := [cva]) func3 rfl rfl rfl rfl ?_
 refine sq <| rg <| ?_
 refine vl (aB rfl) <| nl <| thn <| sq <| sq <| rg <| vl mv <| vl (ln underlying22 rfl hc.len) <| vl (gt rfl rfl) <| nl <| thn <| ?_
 refine cdP rfl (fun hbig => ?_) fun hbig => ?_
 ·refine sq <| rg <| ?_
  refine vl (aB rfl) <| nl <| thn <| rt <| thr <| p1r (a := .bool _) rfl <| ?_
  exact ⟨rfl, _, _, hK, VLe.refl _⟩
 ·refine sk <| thn <| sq <| rg <| ?_
  refine vl mv <| ?_
  refine cl call7 rfl (DrawExecute_c hK hc) ?_
  rintro _ w ⟨t, G1, rfl, htl, hG1, hK⟩
  obtain ⟨o, ho⟩ : ∃ o, exT t = o := ⟨_, rfl⟩
  have hob : o.length ≤ 300000 := ho ▸ exT_bd t
  refine vl asg <| nl <| thn <| sq <| rg <| vl mv <| ?_
  refine cl call8 rfl (implEx ho (hE.mono hG1) (hT.mono hG1) om hK) ?_
  rintro _ w ⟨rfl, G2, hG2, hK⟩
  refine vl asg <| nl <| thn <| sq <| rg <| vl mv <| ?_
  refine cl call9 rfl (specEx ho hK) ?_
  rintro _ w ⟨rfl, G3, hG3, hK⟩
  refine vl asg <| nl <| thn <| sq <| sq <| rg <| vl mv <| vl mv <| vl (seqN rfl rfl) <| nl <| thn <| ?_
  have hG13 := (hG1.trans hG2).trans hG3
  have hE3 := hE.mono hG13
  have hT3 := hT.mono hG13
  refine cdP rfl (fun hne => ?_) fun hne => ?_
  ·exact absurd rfl hne
  ·refine sk <| thn <| sq <| rg <| ?_
   refine cl call8 rfl (implEx (l := tPut) (o := qPut) ex_put hE3 hT3 (by decide) hK) ?_
   rintro _ w ⟨rfl, G4, hG4, hK⟩
   refine vl (seqE rfl rfl) <| vl (aB rfl) <| nl <| thn <| rt <| p1r (a := .bool _) rfl <| ?_
   exact ⟨congrArg Value.bool (decide_eq_true rfl), _, _, hK, hG13.trans hG4⟩
set_option maxHeartbeats 1000000 in
theorem FnExecuteRing_c (hK : K e w G L) (hE : ErrS 252 6 7 G a0 a1) (hT : Tab G) (hc : BytS G cva code) : Ret prog 4 #[cva] w (fun r w' => r = .bool true ∧ ∃ G' L', K e w' G' L' ∧ VLe G G') := by
 refine enter1 (args := [cva]) func4 rfl rfl rfl rfl ?_
 refine sq <| rg <| ?_
 refine vl (aB rfl) <| nl <| thn <| sq <| sq <| rg <| vl mv <| vl (ln underlying22 rfl hc.len) <| vl (gt rfl rfl) <| nl <| thn <| ?_
 refine cdP rfl (fun hbig => ?_) fun hbig => ?_
 ·refine sq <| rg <| ?_
  refine vl (aB rfl) <| nl <| thn <| rt <| thr <| p1r (a := .bool _) rfl <| ?_
  exact ⟨rfl, _, _, hK, VLe.refl _⟩
 ·refine sk <| thn <| sq <| rg <| ?_
  refine vl mv <| ?_
  refine cl call7 rfl (DrawExecute_c hK hc) ?_
  rintro _ w ⟨t, G1, rfl, htl, hG1, hK⟩
  obtain ⟨o, ho⟩ : ∃ o, exT t = o := ⟨_, rfl⟩
  have hob : o.length ≤ 300000 := ho ▸ exT_bd t
  refine vl asg <| nl <| thn <| sq <| rg <| vl mv <| ?_
  refine cl call8 rfl (implEx ho (hE.mono hG1) (hT.mono hG1) om hK) ?_
  rintro _ w ⟨rfl, G2, hG2, hK⟩
  refine vl asg <| nl <| thn <| sq <| rg <| vl mv <| ?_
  refine cl call9 rfl (specEx ho hK) ?_
  rintro _ w ⟨rfl, G3, hG3, hK⟩
  refine vl asg <| nl <| thn <| sq <| sq <| rg <| vl mv <| vl mv <| vl (seqN rfl rfl) <| nl <| thn <| ?_
  have hG13 := (hG1.trans hG2).trans hG3
  have hE3 := hE.mono hG13
  have hT3 := hT.mono hG13
  refine cdP rfl (fun hne => ?_) fun hne => ?_
  ·exact absurd rfl hne
  ·refine sk <| thn <| sq <| rg <| ?_
   refine cl call8 rfl (implEx (l := tRing) (o := (qRing ++ qEmpty)) ex_ring hE3 hT3 (by decide) hK) ?_
   rintro _ w ⟨rfl, G4, hG4, hK⟩
   refine vl (seqE rfl rfl) <| vl (aB rfl) <| nl <| thn <| rt <| p1r (a := .bool _) rfl <| ?_
   exact ⟨congrArg Value.bool (decide_eq_true rfl), _, _, hK, hG13.trans hG4⟩
set_option maxHeartbeats 1000000 in
set_option maxHeartbeats 1000000 in
theorem FnExecuteScan_c (hK : K e w G L) (hE : ErrS 252 6 7 G a0 a1) (hT : Tab G) (hc : BytS G cva code) : Ret prog 5 #[cva] w (fun r w' => r = .bool true ∧ ∃ G' L', K e w' G' L' ∧ VLe G G') := by
 refine enter1 (args := [cva]) func5 rfl rfl rfl rfl ?_
 refine sq <| rg <| ?_
 refine vl (aB rfl) <| nl <| thn <| sq <| sq <| rg <| vl mv <| vl (ln underlying22 rfl hc.len) <| vl (gt rfl rfl) <| nl <| thn <| ?_
 refine cdP rfl (fun hbig => ?_) fun hbig => ?_
 ·refine sq <| rg <| ?_
  refine vl (aB rfl) <| nl <| thn <| rt <| thr <| p1r (a := .bool _) rfl <| ?_
  exact ⟨rfl, _, _, hK, VLe.refl _⟩
 ·refine sk <| thn <| sq <| rg <| ?_
  refine vl mv <| ?_
  refine cl call7 rfl (DrawExecute_c hK hc) ?_
  rintro _ w ⟨t, G1, rfl, htl, hG1, hK⟩
  obtain ⟨o, ho⟩ : ∃ o, exT t = o := ⟨_, rfl⟩
  have hob : o.length ≤ 300000 := ho ▸ exT_bd t
  refine vl asg <| nl <| thn <| sq <| rg <| vl mv <| ?_
  refine cl call8 rfl (implEx ho (hE.mono hG1) (hT.mono hG1) om hK) ?_
  rintro _ w ⟨rfl, G2, hG2, hK⟩
  refine vl asg <| nl <| thn <| sq <| rg <| vl mv <| ?_
  refine cl call9 rfl (specEx ho hK) ?_
  rintro _ w ⟨rfl, G3, hG3, hK⟩
  refine vl asg <| nl <| thn <| sq <| sq <| rg <| vl mv <| vl mv <| vl (seqN rfl rfl) <| nl <| thn <| ?_
  have hG13 := (hG1.trans hG2).trans hG3
  have hE3 := hE.mono hG13
  have hT3 := hT.mono hG13
  refine cdP rfl (fun hne => ?_) fun hne => ?_
  ·exact absurd rfl hne
  ·refine sk <| thn <| sq <| rg <| ?_
   refine cl call8 rfl (implEx (l := tScans) (o := qScans) ex_scans hE3 hT3 (by decide) hK) ?_
   rintro _ w ⟨rfl, G4, hG4, hK⟩
   refine vl (seqE rfl rfl) <| vl (aB rfl) <| nl <| thn <| rt <| p1r (a := .bool _) rfl <| ?_
   exact ⟨congrArg Value.bool (decide_eq_true rfl), _, _, hK, hG13.trans hG4⟩
set_option maxHeartbeats 1000000 in
set_option maxHeartbeats 1000000 in
theorem FnExecuteIncomplete_c (hK : K e w G L) (hE : ErrS 252 6 7 G a0 a1) (hT : Tab G) (hc : BytS G cva code) : Ret prog 6 #[cva] w (fun r w' => r = .bool true ∧ ∃ G' L', K e w' G' L' ∧ VLe G G') := by
 refine enter1 (args := [cva]) func6 rfl rfl rfl rfl ?_
 refine sq <| rg <| ?_
 refine vl (aB rfl) <| nl <| thn <| sq <| sq <| rg <| vl mv <| vl (ln underlying22 rfl hc.len) <| vl (gt rfl rfl) <| nl <| thn <| ?_
 refine cdP rfl (fun hbig => ?_) fun hbig => ?_
 ·refine sq <| rg <| ?_
  refine vl (aB rfl) <| nl <| thn <| rt <| thr <| p1r (a := .bool _) rfl <| ?_
  exact ⟨rfl, _, _, hK, VLe.refl _⟩
 ·refine sk <| thn <| sq <| rg <| ?_
  refine vl mv <| ?_
  refine cl call7 rfl (DrawExecute_c hK hc) ?_
  rintro _ w ⟨t, G1, rfl, htl, hG1, hK⟩
  obtain ⟨o, ho⟩ : ∃ o, exT t = o := ⟨_, rfl⟩
  have hob : o.length ≤ 300000 := ho ▸ exT_bd t
  refine vl asg <| nl <| thn <| sq <| rg <| vl mv <| ?_
  refine cl call8 rfl (implEx ho (hE.mono hG1) (hT.mono hG1) om hK) ?_
  rintro _ w ⟨rfl, G2, hG2, hK⟩
  refine vl asg <| nl <| thn <| sq <| rg <| vl mv <| ?_
  refine cl call9 rfl (specEx ho hK) ?_
  rintro _ w ⟨rfl, G3, hG3, hK⟩
  refine vl asg <| nl <| thn <| sq <| sq <| rg <| vl mv <| vl mv <| vl (seqN rfl rfl) <| vl (mB rfl) <| ?_
  have hG13 := (hG1.trans hG2).trans hG3
  have hE3 := hE.mono hG13
  have hT3 := hT.mono hG13
  refine splP (t := 18) rfl (fun hne => ?_) fun hne => ?_
  ·exact absurd rfl hne
  ·refine gy rfl <| vl mv <| gy rfl <| vl (sln underlying9 rfl) <| gy rfl <| vl (gt rfl rfl) <| vl (pk rfl) <| nl <| thn <| ?_
   refine cdP rfl (fun hlong => ?_) fun hlong => ?_
   ·refine sq <| rg <| ?_
    refine vl mv <| vl mv <| vl (seqE rfl rfl) <| vl (aB rfl) <| nl <| thn <| rt <| thr <| p1r (a := .bool _) rfl <| ?_
    exact ⟨congrArg Value.bool (decide_eq_true rfl), _, _, hK, hG13⟩
   ·have hts : t.length ≤ 600 := by omega
    have hcl := cmp_len t
    have hye : exT (cmpT t) = o := (law_incomplete hts).trans ho
    refine sk <| thn <| sq <| rg <| ?_
    refine vl mv <| ?_
    refine cl call10 rfl (completeLines_c hK om) ?_
    rintro _ w ⟨rfl, hK⟩
    refine cl call8 rfl (implEx hye hE3 hT3 om hK) ?_
    rintro _ w ⟨rfl, G4, hG4, hK⟩
    refine vl mv <| vl (seqE rfl rfl) <| vl (aB rfl) <| nl <| thn <| rt <| p1r (a := .bool _) rfl <| ?_
    exact ⟨congrArg Value.bool (decide_eq_true rfl), _, _, hK, hG13.trans hG4⟩
end
open Go Go.ChangeShapes Go.WideShapes Go.RowKit Go.Ro
def ldL : List (String × DataW Unit) := Rows.fnExecutePutRow.laid
def ld3 : List (String × DataW Unit) := [("loop.example/ringoverlay/impl.errArgs", .iface "*errors.errorString" (.ptr (.agg [.lit (.string [97, 114, 103, 117, 109, 101, 110, 116, 115])]))), ("loop.example/ringoverlay/impl.errRefused", .iface "*errors.errorString" (.ptr (.agg [.lit (.string [114, 101, 102, 117, 115, 101, 100])]))), ("unicode/utf8.first", Rows.laid_unicode_utf8_first)]
theorem ld_g0 : Tryz.prog.globalNamed "loop.example/ringoverlay/impl.errArgs" = some 6 := by kernel_rfl
theorem ld_g1 : Tryz.prog.globalNamed "loop.example/ringoverlay/impl.errRefused" = some 7 := by kernel_rfl
theorem ld_gp : Tryz.prog.globalNamed "internal/strconv.uint64pow10" = some 1 := by kernel_rfl
theorem ld_t0 : (Tryz.prog.globals[6]?).map (·.type) = some 68 := by kernel_rfl
theorem ld_t1 : (Tryz.prog.globals[7]?).map (·.type) = some 68 := by kernel_rfl
theorem ld_tp : (Tryz.prog.globals[1]?).map (·.type) = some 151 := by kernel_rfl
theorem ld_cE : Tryz.prog.cellsOf 275 = 1 := by kernel_rfl
theorem ld_cS : Tryz.prog.cellsOf 9 = 1 := by kernel_rfl
theorem ld_cU : Tryz.prog.cellsOf 114 = 1 := by kernel_rfl
theorem ld_cP : Tryz.prog.cellsOf 151 = 20 := by kernel_rfl
theorem ld_star : "*" ++ "errors.errorString" = "*errors.errorString" := by decide
theorem ld_row (u : TypeId) (h : Tryz.prog.typeName? 3 u = some "*errors.errorString") : u = 252 :=
 typeName_ptr_named (nm := "errors.errorString") (by rw [ld_star]; kernel_rfl) kr (by decide) u (by rw [ld_star]; exact h)
theorem ld_tail {W : World} (h : laidMet Tryz.prog ldL W) : Tab (hvw W) ∧ laidMet Tryz.prog ld3 W := by
 have h3 := laidMet.tail (laidMet.tail h)
 have ht := Lib.tabIs_of_head (k := .u64) (zs := Lib.pow10Tab) ld_gp ld_tp Tryz.underlying151 Tryz.underlying114 ld_cU ld_cP h3
 refine ⟨?_, laidMet.tail (laidMet.tail h3)⟩
 unfold Lib.TabIs World.var? at ht
 rw [ld_gp] at ht
 simp only [Option.bind_some] at ht
 have hlt : 1 < W.heap.size := by
  rcases Nat.lt_or_ge 1 W.heap.size with h' | h'
  ·exact h'
  ·simp [Array.getElem?_eq_none h'] at ht
 refine ⟨W.heap[1], by unfold hvw; exact Array.getElem?_eq_getElem hlt, fun w hw => ?_⟩
 unfold Lib.TabIs World.var?
 rw [ld_gp]
 simp only [Option.bind_some, hw]
 rw [Array.getElem?_eq_getElem hlt] at ht
 exact ht
set_option maxRecDepth 100000 in
theorem ld_of {W : World} (h : laidMet Tryz.prog ldL W) :
  ∃ (a0 a1 : Addr), W.var? Tryz.prog "loop.example/ringoverlay/impl.errArgs" = some #[.iface 252 (.pointer (some a0))] ∧ W.var? Tryz.prog "loop.example/ringoverlay/impl.errRefused" = some #[.iface 252 (.pointer (some a1))] ∧ (ErrS 252 6 7 (hvw W) a0 a1 ∧ Tab (hvw W)) := by
 obtain ⟨hT, h⟩ := ld_tail h
 obtain ⟨ps, ⟨g0, t0, cs0, f0, p0, q0, hg0, ht0, hv0, hd0, ⟨g1, t1, cs1, f1, p1, q1, hg1, ht1, hv1, hd1, _, e1⟩, e0⟩, hnd, hrows⟩ := h
 obtain rfl := Option.some.inj (ld_g0.symm.trans hg0)
 obtain rfl := Option.some.inj (ld_g1.symm.trans hg1)
 obtain rfl := Option.some.inj (ld_t0.symm.trans ht0)
 obtain rfl := Option.some.inj (ld_t1.symm.trans ht1)
 subst e1
 subst e0
 obtain ⟨l0⟩ := cs0
 obtain ⟨l1⟩ := cs1
 have ok0 : ∀ u v, l0 = [.iface u v] → Value.okWide Tryz.prog W .any 0 u v := fun u v e => by
  subst e
  exact (hrows 6 0 (by simp [MemPlace.row])).2 u v (by simpa using World.var?_cell hg0 hv0 0)
 have ok1 : ∀ u v, l1 = [.iface u v] → Value.okWide Tryz.prog W .any 0 u v := fun u v e => by
  subst e
  exact (hrows 7 0 (by simp [MemPlace.row])).2 u v (by simpa using World.var?_cell hg1 hv1 0)
 obtain ⟨a0, s0, rfl, hc0, hs0, hz0, rfl⟩ := errorString_of_trod Tryz.underlying68 ld_row Tryz.underlying252 Tryz.underlying275 rfl rfl Tryz.underlying9 ld_cE ld_cS hd0 ok0
 obtain ⟨a1, s1, rfl, hc1, hs1, hz1, rfl⟩ := errorString_of_trod Tryz.underlying68 ld_row Tryz.underlying252 Tryz.underlying275 rfl rfl Tryz.underlying9 ld_cE ld_cS hd1 ok1
 obtain ⟨c0, t0, hb0⟩ := (hrows a0.block a0.off (by simp [MemPlace.row])).1
 obtain ⟨c1, t1, hb1⟩ := (hrows a1.block a1.off (by simp [MemPlace.row])).1
 have k0 : W.cell? ⟨6, 0, none⟩ = some (.iface 252 (.pointer (some a0))) := by simpa using World.var?_cell ld_g0 hv0 0
 have k1 : W.cell? ⟨7, 0, none⟩ = some (.iface 252 (.pointer (some a1))) := by simpa using World.var?_cell ld_g1 hv1 0
 have kc : ∀ (b : Nat) (v : Value), W.cell? ⟨b, 0, none⟩ = some v → cellV (hvw W) ⟨b, 0, none⟩ = some v := by
  intro b v hb
  unfold World.cell? at hb
  unfold cellV hvw
  exact hb
 refine ⟨a0, a1, hv0, hv1, ⟨kc 6 _ k0, kc 7 _ k1, ?_, ⟨c0, t0, hb0⟩, ⟨c1, t1, hb1⟩⟩, hT⟩
 rintro rfl
 simp [MemPlace.row] at hnd
theorem ld_var {W W' : World} {x : Array Value} {s : String} (h : W.var? Tryz.prog s = some x) (hb : Below W.heap.size W W') : W'.var? Tryz.prog s = some x := by
 unfold World.var? at h ⊢
 cases hg : Tryz.prog.globalNamed s with
 | none => simp [hg] at h
 | some g =>
  simp only [hg, Option.bind_some] at h ⊢
  have hlt : g < W.heap.size := by
   rcases Nat.lt_or_ge g W.heap.size with h' | h'
   ·exact h'
   ·simp [Array.getElem?_eq_none h'] at h
  rw [hb.block g hlt]; exact h
set_option maxRecDepth 100000 in
theorem ld_read {H : Type} (enc : TypeId × Value → H) {W : World} {x0 x1 : Value} (h0 : W.var? Tryz.prog "loop.example/ringoverlay/impl.errArgs" = some #[x0]) (h1 : W.var? Tryz.prog "loop.example/ringoverlay/impl.errRefused" = some #[x1]) (i0 : IsIface x0) (i1 : IsIface x1) (sp : Nat → Bool) :
  DataW.TrodVars enc Tryz.prog W sp ["loop.example/ringoverlay/impl.errArgs", "loop.example/ringoverlay/impl.errRefused"] [tok enc x0, tok enc x1] [.cell 6 0, .cell 7 0] :=
 ⟨6, 68, #[x0], 1, [], [.cell 7 0], ld_g0, ld_t0, h0, trod_held Tryz.underlying68 i0 0, ⟨7, 68, #[x1], 1, [], [], ld_g1, ld_t1, h1, trod_held Tryz.underlying68 i1 0, rfl, rfl⟩, rfl⟩
noncomputable def ldLow : Nat := (World.holding Tryz.prog default ⟨#[], #[], []⟩).heap.size
def lit1 : DataW Unit → List Value
 | .lit (.int k z) => [.int k z]
 | _ => []
def agg1 : DataW Unit → List Value
 | .agg xs => xs.flatMap lit1
 | d => lit1 d
def agg2 : DataW Unit → List Value
 | .agg xs => xs.flatMap agg1
 | d => lit1 d
def putO (cs : Array Value) : Obj → Obj
 | .cells _ t frozen => .cells cs t frozen
 | o => o
noncomputable def ldW (os : Os) : World :=
 let w0 := World.holding Tryz.prog os ⟨#[.cells #[.string { data := #[97, 114, 103, 117, 109, 101, 110, 116, 115] }] 275, .cells #[.string { data := #[114, 101, 102, 117, 115, 101, 100] }] 275], #[], []⟩
 { w0 with heap := ((((((w0.heap.modify 6 (putO #[.iface 252 (.pointer (some ⟨ldLow, 0, none⟩))])).modify 7 (putO #[.iface 252 (.pointer (some ⟨ldLow + 1, 0, none⟩))])).modify 1 (putO (agg2 Rows.laid_internal_strconv_uint64pow10).toArray)).modify 2 (putO (agg2 Rows.laid_unicode_utf8_first).toArray)).modify 3 (putO (agg2 Rows.laid_unicode_utf8_acceptRanges).toArray)).modify 4 (putO (agg2 Rows.laid_math_bits_deBruijn32tab).toArray)).modify 5 (putO (agg2 Rows.laid_math_bits_deBruijn64tab).toArray) }
set_option maxRecDepth 100000 in
theorem ldW_met (os : Os) (args : Array Value) : laidMet Tryz.prog ldL ((ldW os).forCall (fun _ _ => 0) ⟨#[], args, []⟩).memory :=
 laidMet_of_run' 8 kr kr
end Go.Proofs.YtbiihblpgfgaoabGreatDoor
