/- Contracts of functions on strings: the program's scripts. The laws on scripts: what each returns. Conditions: those that each row states. -/
import Derived.Test.YtbiihblpgfgaoaaGreatDoorXj
import Derived.Test.YtbiihblpgfgaoaaGreatDoorDw
import Derived.Test.YtbiihblpgfgaoaaGreatDoorXf
import Derived.Test.YtbiihblpgfgaoaaGreatDoorEvM
namespace Go.Proofs.YtbiihblpgfgaoaaGreatDoor
open Go Go.Ro Tryz
section
variable {e w : World} {G : View} {L A B : Own} {v u bv p : Value} {xs : List Int} {rs qs : List Rn} {W W' : Wv} {wd wd' : Wd} {k n : Int} {l out h : List UInt8} {ws : List (List UInt8)} {cb b2 : Nat} {a0 a1 : Addr}
theorem prT_sc (n : Int) (ks : List Int) : prT tScan ([n] ++ ks) = scP n ks ++ [10] := by
 have h1 : hdP tScan = [tScan] := if_neg (by decide)
 have h2 : ∀ ks : List Int, Lib.joinTail [32] (ks.map num) = ks.flatMap sc1 := by
  intro ks
  induction ks with
  | nil => rfl
  | cons x ks ih =>
   unfold Lib.joinTail at ih ⊢
   rw [List.map_cons, List.map_cons, List.flatten_cons, ih, List.flatMap_cons]; rfl
 have h3 : Lib.joinTail [32] (([n] ++ ks).map num) = ([n] ++ ks).flatMap sc1 := h2 _
 unfold prT
 rw [h1, List.singleton_append, Lib.join_cons, h3]
 unfold scP
 rw [List.flatMap_append]
 simp [sc1]
set_option maxHeartbeats 2000000 in
theorem implExecute_c (hE : ErrS 253 6 7 G a0 a1) (hT : Tab G) (hl : l.length ≤ 2000000) (hK : K e w G L) : Ret prog 10 #[Sv l] w (fun r w' => r = Sv (exT l) ∧ ∃ G', VLe G G' ∧ K e w' G' L) := by
 refine enter1 (args := [Sv l]) func10 rfl rfl rfl rfl ?_
 refine sq <| rg <| ?_
 refine vl asg <| nl <| thn <| sq <| sq <| rg <| vl mv <| vl (sln underlying9 rfl) <| vl (gt rfl rfl) <| nl <| thn <| ?_
 refine cdP rfl (fun h0 => ?_) fun h0 => ?_
 ·refine sq <| rg <| ?_
  refine vl asg <| nl <| thn <| rt <| thr <| p1r (a := _) rfl <| ?_
  exact ⟨by rw [exT_long (by omega)]; rfl, _, VLe.refl _, hK⟩
 ·have hl : l.length ≤ 600 := by omega
  obtain ⟨res, hres⟩ : ∃ r, exT l = r := ⟨_, rfl⟩
  rw [hres]
  rw [exT_short hl] at hres
  refine sk <| thn <| sq <| rg <| ?_
  refine vl (bd [] Ty.p45 Ty.i45 rfl trivial rfl) <| ?_
  refine bx hK rfl rfl ?_
  intro b14 w hK
  refine vl asg <| nl <| thn <| sq <| rg <| vl mv <| ?_
  refine bsN [.const (.int .i64 5), .const (.int .i64 20), .const (.int .i64 35), .const (.int .i64 50)] hK underlying36 Ty.i3 rfl rfl rfl rfl rfl rfl rfl rfl ?_
  intro b17 w hK
  replace hK : K e w G ([(b17, row (ints ids0) 3)] ++ ((b14, row (wc ⟨0, .slice none 0 0, .slice none 0 0, .slice none 0 0, 0, .slice none 0 0, .slice none 0 0⟩ ++ [.pointer none, .slice none 0 0]) 45) :: L)) := hK
  obtain ⟨G1, hG1, hv, hK⟩ := K.pubO (xs := ids0) (v := .slice (some ⟨b17, 0, none⟩) 4 4) hK (OS.lit (m := 4) rfl (by decide))
  refine cl call18 rfl (implWorldNew_c hK hv) ?_
  rintro _ w ⟨G2, W, wd, rs, b, rfl, hG2, hW, hb, hwd, hK⟩
  obtain rfl : b = true := hb.2 ⟨ids0_ok, by decide⟩
  obtain rfl : wd = newW ids0 := hwd
  refine vl mv <| vl (ext rfl rfl) <| vl (ext rfl rfl) <| vl (nc rfl) <| vl (fa underlying45 rfl Ty.z40 rfl) <| ?_
  refine soS hK Ty.i40 0 rfl rfl rfl rfl (WdS.one hW) rfl ?_
  intro w hK
  refine nl <| thn <| sq <| rg <| vl mv <| ?_
  replace hK : K e w G2 ((b14, row (wc W ++ [.pointer none, .slice none 0 0]) 45) :: L) := hK
  refine cl call19 rfl (split_c (c := 10) (l := l) om hK) ?_
  rintro v w ⟨A, ho, hK⟩
  obtain ⟨G3, hG3, hu, hK⟩ := K.pubE (c := sc) (fun _ => rfl) hK ho
  have hlen := ctA_len 10 l []
  have hcl : ctA 10 [] l = ctL 10 l := rfl
  rw [hcl] at hlen
  have hbl : ∀ x ∈ ctL 10 l, x.length ≤ 100000 := fun x hx => by have := ct_piece hx; omega
  generalize ctL 10 l = ls at *
  have hbl2 : ∀ x ∈ ls.dropLast, x.length ≤ 100000 := fun x hx => hbl x (List.dropLast_subset _ hx)
  have hdl : ls.dropLast.length = ls.length - 1 := List.length_dropLast
  have hd : StrS G3 (slc v 0 (ls.length - 1) 1) ls.dropLast := by
   have := SlR.slc hu (Nat.zero_le (ls.length - 1)) (by omega)
   rw [List.drop_zero] at this
   rw [List.dropLast_eq_take]; exact this
  have hG13 := (hG1.trans hG2).trans hG3
  have hR : ConR e G3 L b14 (runL (ls.dropLast.take 0)).1 (runL (ls.dropLast.take 0)).2 w :=
   ⟨G3, W, rs, .pointer none, .slice none 0 0, [], VLe.refl _, hW.mono hG3, ⟨.inl rfl, OS.nil 1 5⟩, hK⟩
  generalize ls.dropLast = ds at *
  refine vl asg <| nl <| thn <| sq <| sq <| rg <| vl mv <| vl mv <| vl (ln underlying48 rfl hu.len) <| vl (sb rfl rfl) <| vl (slHi (h := ls.length - 1) underlying48 Ty.s9 rfl hu.1 (by exact congrArg (Value.int .i64) om) om) <| vl (ln underlying48 rfl hd.len) <| vl (mI rfl) <| nl <| thn <| ?_
  refine bk <| ?_
  refine lp (σ := Nat) (fun i => [(3, .pointer (some ⟨b14, 0, none⟩)), (29, slc v 0 (ls.length - 1) 1), (30, .int .i64 (ds.length : Int)), (31, .int .i64 (i : Int))]) (fun i w => i ≤ ds.length ∧ ConR e G3 L b14 (runL (ds.take i)).1 (runL (ds.take i)).2 w) (fun i => ds.length - i) 0 ⟨rfl, rfl, rfl, rfl, trivial⟩ ⟨Nat.zero_le _, hR⟩ ?_
  clear hK hW hR
  rintro i g w ⟨hi, hR⟩
  refine sq <| rg <| ?_
  refine vl (lt rfl rfl) <| nl <| thn <| sq <| ?_
  refine cdP rfl (fun hc => ?_) fun hc => ?_
  ·have hi' : i < ds.length := by omega
   obtain ⟨G4, W4, q4, p, bv, B, hG4, hW4, hb4, hK⟩ := hR
   have hd4 := EF.mono hd hG4
   have hcl := StrS.cell hd4 hi'
   have ht := runL_take hi'
   have hl4 := runL_len (ds.take i)
   rw [List.length_take] at hl4
   refine sk <| thn <| sq <| bk <| sq <| rg <| ?_
   refine vl (ixm1 (m := i) underlying48 Ty.s9 rfl hd4.1 rfl om om) <| vl (ldV hK Ty.o9 rfl hcl) <| vl asg <| nl <| thn <| rg <| vl mv <| vl mv <| ?_
   refine cl call20 rfl (line_c (hE.mono (hG13.trans hG4)) (hT.mono (hG13.trans hG4)) (runL_ok _) om (hbl2 _ (List.getElem_mem hi')) hW4 hb4 hK) ?_
   rintro _ w ⟨rfl, hR⟩
   refine nl <| bkn <| thn <| rg <| vl (ad rfl rfl) <| vl (mI rfl) <| nl <| thn <| ?_
   exact ⟨i + 1, ⟨rfl, rfl, rfl, rfl, trivial⟩, ⟨hi', by rw [ht]; exact hR.low hG4⟩, by omega⟩
  ·have hi' : i = ds.length := by omega
   subst hi'
   rw [List.take_length] at hR
   have hok := runL_ok ds
   have hol := runL_len ds
   have hrb : res.length ≤ 10000000 := by
    have := outL_bd ds
    rw [← hres]; omega
   have hres2 : res = (runL ds).2 ++ stT (runL ds).1 := hres.symm
   clear hres
   obtain ⟨G4, W4, q4, p, bv, B, hG4, hW4, hb4, hK⟩ := hR
   generalize (runL ds).2 = out at *
   generalize (runL ds).1 = wd at *
   have hT4 := hT.mono (hG13.trans hG4)
   have hi0 := hW4.items
   have ht0 := hW4.told
   have hnx : W4.next = wd.scan.1 := hW4.next
   have hio := hok.2.2.2.1
   obtain ⟨hn, hsa, _⟩ := hok.2.2.2.2.1
   have hil := it_len hio
   have hsl := hsa.len
   have hst : stT wd = itT wd.items ++ [10] ++ (scP wd.scan.1 wd.scan.2 ++ [10]) := rfl
   rw [hst, ← hnx] at hres2
   rw [← hnx] at hn
   obtain ⟨zs, hzs⟩ : ∃ zs, wd.items = zs := ⟨_, rfl⟩
   obtain ⟨ks, hks⟩ : ∃ ks, wd.scan.2 = ks := ⟨_, rfl⟩
   rw [hzs] at hi0 hio hil hres2
   rw [hks] at ht0 hsa hsl hres2
   refine ex <| the <| the <| bkh <| thn <| sq <| rg <| ?_
   refine vl asg <| nl <| thn <| sq <| sq <| rg <| vl mv <| vl (nc rfl) <| vl (fa underlying45 rfl Ty.z40 rfl) <| vl (fa underlying40 rfl Ty.z35 rfl) <| vl (ldO hK Ty.o35 0 rfl rfl rfl) <| vl (ln underlying35 rfl hi0.len) <| vl (mI rfl) <| nl <| thn <| ?_
   refine bk <| ?_
   refine lp (σ := Nat) (fun i => [(3, .pointer (some ⟨b14, 0, none⟩)), (7, Sv (itT (zs.take i))), (43, W4.i), (44, .int .i64 (zs.length : Int)), (45, .int .i64 (i : Int))]) (fun i w => i ≤ zs.length ∧ (itT (zs.take i)).length ≤ 5 + 18 * i ∧ K e w G4 ((b14, row (wc W4 ++ [p, bv]) 45) :: (B ++ L))) (fun i => zs.length - i) 0 ⟨rfl, rfl, rfl, rfl, rfl, trivial⟩ ⟨Nat.zero_le _, Nat.le_refl _, hK⟩ ?_
   clear hK
   rintro i g w ⟨hi, hll, hK⟩
   refine sq <| rg <| ?_
   refine vl (lt rfl rfl) <| nl <| thn <| sq <| ?_
   refine cdP rfl (fun hc2 => ?_) fun hc2 => ?_
   ·have hi' : i < zs.length := by omega
    have hm : zs[i] ∈ zs := List.getElem_mem _
    have h1 := hio.1 _ hm
    have h2 : Pt zs[i].1 := hio.2.1 _ (List.mem_map_of_mem (f := (·.1)) hm)
    have n1 := num_len (n := zs[i].1) (by omega) (by omega)
    have n2 := num_len (n := zs[i].2) (by omega) (by omega)
    have htk := itT_take hi'
    have hitl := it1_len hio hm
    refine sk <| thn <| sq <| bk <| sq <| rg <| ?_
    refine vl (ixm (m := i) underlying35 Ty.s52 rfl hi0.1 rfl om om) <| vl (lsF hK Ty.a52 Ty.s52 rfl hi0 om) <| ?_
    refine al hK Ty.i52 rfl ?_
    intro b9 w hK
    refine soS hK Ty.i52 0 rfl rfl rfl rfl (by rfl) rfl ?_
    intro w hK
    refine nl <| thn <| ?_
    replace hK : K e w G4 ((b9, row (ic zs[i]) 52) :: (b14, row (wc W4 ++ [p, bv]) 45) :: (B ++ L)) := hK
    refine rgq (fun w => K _ w _ _) Ty.mixed kr (hK.drawn _) ?_
    refine qv (fun w hK => mv) <| qv (fun w hK => (fa underlying52 rfl Ty.z3 rfl)) <| qldO Ty.o3 0 rfl rfl rfl <| ?_
    refine qcl call21 rfl (fun w hK => itoa_c hT4 om om hK) ?_
    refine qv (fun w hK => (sad rfl rfl (by first | omega | (simp; omega)))) <| qv (fun w hK => (sad rfl rfl (by first | omega | (simp; omega)))) <| qv (fun w hK => (fa underlying52 rfl Ty.z3 rfl)) <| qldO Ty.o3 0 rfl rfl rfl <| ?_
    refine qcl call21 rfl (fun w hK => itoa_c hT4 om om hK) ?_
    refine qv (fun w hK => (sad rfl rfl (by first | omega | (simp; omega)))) <| qv (fun w hK => (sad rfl rfl (by first | omega | (simp; omega)))) <| qv (fun w hK => asg) <| qn <| ?_
    intro w hK
    refine bkn <| thn <| rg <| vl (ad rfl rfl) <| vl (mI rfl) <| nl <| thn <| ?_
    refine ⟨i + 1, ⟨rfl, ?_, rfl, rfl, rfl, trivial⟩, ⟨hi', by rw [htk, List.length_append]; omega, hK.drop1⟩, by omega⟩
    rw [htk]
    show Sv _ = Sv _
    exact congrArg Sv (by unfold it1; simp only [List.append_assoc])
   ·have hi' : i = zs.length := by omega
    subst hi'
    rw [List.take_length] at hll ⊢
    have hine : itT zs ≠ [] := by unfold itT tItems; simp
    have hld : ∀ w, (∃ x y M, K e w G4 ((b14, row (wc W4 ++ [x, y]) 45) :: M)) → w.cell? ⟨b14, 4, none⟩ = some (.int .i64 W4.next) ∧ w.cell? ⟨b14, 5, none⟩ = some W4.t := by
     rintro w ⟨x, y, M, hK⟩
     have h := hK.own b14 _ (List.mem_cons_self ..)
     exact ⟨(row_cell h).trans rfl, (row_cell h).trans rfl⟩
    have hxs : ∀ x ∈ [W4.next] ++ ks, -1000000 ≤ x ∧ x ≤ 1000000 := by
     intro x hx
     rcases List.mem_append.1 hx with hx | hx
     ·rw [List.mem_singleton.1 hx]; omega
     ·have := hsa.1 x hx; omega
    refine ex <| the <| the <| bkh <| thn <| sq <| rg <| ?_
    refine vl mv <| vl mv <| ?_
    refine cl call22 rfl (print_c (xs := []) (wd := itT zs) hT4 hb4 hK nil_row (by simp) (by decide) om om) ?_
    rintro _ w ⟨rfl, p2, bv2, B2, hb5, hK⟩
    rw [prT_w hine] at hb5
    refine nl <| thn <| sq <| ?_
    refine rgs (fun w => ∃ x y M, K e w G4 ((b14, row (wc W4 ++ [x, y]) 45) :: M)) (fun w => K _ w _ _) [U,U,U,U,U,U,U,U,U,U,U,U,U,U,U,U] 16 Ty.mixed rfl rfl (hK.drawn _) ?_
    intro w hK
    have hS : (fun w => ∃ x y M, K e w G4 ((b14, row (wc W4 ++ [x, y]) 45) :: M)) w := (by first | exact ⟨_, _, _, hK⟩ | exact ⟨_, _, _, hK.drop1⟩)
    refine xt (i := 0) rfl kr rfl rfl (fun w hK => mv) hS <| xt (i := 1) rfl kr rfl rfl (fun w hK => mv) hS <| xt (i := 2) rfl kr rfl rfl (fun w hK => (nc rfl)) hS <| xt (i := 3) rfl kr rfl rfl (fun w hK => (fa underlying45 rfl Ty.z40 rfl)) hS <| xt (i := 4) rfl kr rfl rfl (fun w hK => (fa underlying40 rfl Ty.z38 rfl)) hS <| xt (i := 5) rfl kr rfl rfl (fun w hK => (fa underlying38 rfl Ty.z3 rfl)) hS <| xt (i := 6) rfl kr rfl rfl (fun w hK => (ldC Ty.o3 rfl (hld _ hK).1)) hS <| xt (i := 8) rfl kr rfl rfl (fun w hK => mv) hS <| xt (i := 9) rfl kr rfl rfl (fun w hK => (nc rfl)) hS <| xt (i := 10) rfl kr rfl rfl (fun w hK => (fa underlying45 rfl Ty.z40 rfl)) hS <| xt (i := 11) rfl kr rfl rfl (fun w hK => (fa underlying40 rfl Ty.z38 rfl)) hS <| xt (i := 12) rfl kr rfl rfl (fun w hK => (fa underlying38 rfl Ty.z36 rfl)) hS <| xt (i := 13) rfl kr rfl rfl (fun w hK => (ldC Ty.o36 rfl (hld _ hK).2)) hS <| ?_
    refine xe (i := 7) kr rfl rfl ?_
    refine bsN [.tmp 70] hK underlying36 Ty.i3 rfl rfl rfl rfl rfl rfl rfl rfl ?_
    intro b71 w hK
    refine xnk ((by first | exact ⟨_, _, _, hK⟩ | exact ⟨_, _, _, hK.drop1⟩)) fun hS => ?_
    refine xe (i := 14) kr rfl rfl ?_
    replace hK : K e w G4 ([(b71, row (ints [W4.next]) 3)] ++ ((b14, row (wc W4 ++ [p2, bv2]) 45) :: (B2 ++ L))) := hK
    refine apI (xs := [W4.next]) hK underlying36 Ty.i3 rfl rfl (OS.lit (m := 1) rfl (by decide)) rfl ht0 (by simp; omega) fun v5 A5 w ho5 hK => ?_
    obtain ⟨G5, hG5, hv5, hK⟩ := K.pubO hK ho5
    refine xnk ((⟨_, _, _, K.vle hK hG5⟩)) fun hS => ?_
    refine xe (i := 15) kr rfl rfl ?_
    refine cl call22 rfl (print_c (xs := [W4.next] ++ ks) (wd := tScan) (hT4.mono hG5) hb5 hK hv5 hxs (by simp; omega) (by decide) (by rw [List.length_append, List.length_append, List.length_singleton]; omega)) ?_
    rintro _ w ⟨rfl, p3, bv3, B3, hb6, hK⟩
    rw [prT_sc] at hb6
    have hrl : res = out ++ (itT zs ++ [10]) ++ (scP W4.next ks ++ [10]) := by rw [hres2]; simp only [List.append_assoc]
    rw [← hrl] at hb6
    refine xnk ((⟨_, _, _, K.vle hK hG5⟩)) fun hS => ?_
    refine xd kr <| thn <| sq <| rg <| vl mv <| vl (nc rfl) <| vl (fa underlying45 rfl Ty.z43 rfl) <| ?_
    refine cl call23 rfl (String_c hb6 hK (by rw [hrl]; simp) hrb) ?_
    rintro _ w ⟨rfl, hK⟩
    refine vl asg <| nl <| thn <| rt <| p1r (a := _) rfl <| ?_
    exact ⟨rfl, G5, (hG13.trans hG4).trans hG5, hK.drop1⟩
end
open Go Go.Ro Tryz
section
variable {e w : World} {G : View} {L A B : Own} {v u cva : Value} {code : List Int} {l o : List UInt8} {a0 a1 : Addr}
theorem implEx {o : List UInt8} (ho : exT l = o) (hE : ErrS 253 6 7 G a0 a1) (hT : Tab G) (hl : l.length ≤ 2000000) (hK : K e w G L) : Ret prog 10 #[Sv l] w (fun r w' => r = Sv o ∧ ∃ G', VLe G G' ∧ K e w' G' L) := by
 subst ho; exact implExecute_c hE hT hl hK
theorem specEx {o : List UInt8} (ho : exT l = o) (hK : K e w G L) : Ret prog 11 #[Sv l] w (fun r w' => r = Sv o ∧ ∃ G', VLe G G' ∧ K e w' G' L) := by
 subst ho; exact specExecute_c hK
set_option maxHeartbeats 1000000 in
theorem FnExecuteEmpty_c (hK : K e w G L) (hE : ErrS 253 6 7 G a0 a1) (hT : Tab G) (hc : BytS G cva code) : Ret prog 8 #[cva] w (fun r w' => r = .bool true ∧ ∃ G' L', K e w' G' L' ∧ VLe G G') := by
 refine enter1 (args := [cva]) func8 rfl rfl rfl rfl ?_
 refine sq <| rg <| ?_
 refine vl (aB rfl) <| nl <| thn <| sq <| sq <| rg <| vl mv <| vl (ln underlying22 rfl hc.len) <| vl (gt rfl rfl) <| nl <| thn <| ?_
 refine cdP rfl (fun hbig => ?_) fun hbig => ?_
 ·refine sq <| rg <| ?_
  refine vl (aB rfl) <| nl <| thn <| rt <| thr <| p1r (a := .bool _) rfl <| ?_
  exact ⟨rfl, _, _, hK, VLe.refl _⟩
 ·refine sk <| thn <| sq <| rg <| ?_
  refine vl mv <| ?_
  refine cl call9 rfl (DrawExecute_c hK hc) ?_
  rintro _ w ⟨t, G1, rfl, htl, hG1, hK⟩
  obtain ⟨o, ho⟩ : ∃ o, exT t = o := ⟨_, rfl⟩
  have hob : o.length ≤ 300000 := ho ▸ exT_bd t
  refine vl asg <| nl <| thn <| sq <| rg <| vl mv <| ?_
  refine cl call10 rfl (implEx ho (hE.mono hG1) (hT.mono hG1) om hK) ?_
  rintro _ w ⟨rfl, G2, hG2, hK⟩
  refine vl asg <| nl <| thn <| sq <| rg <| vl mv <| ?_
  refine cl call11 rfl (specEx ho hK) ?_
  rintro _ w ⟨rfl, G3, hG3, hK⟩
  refine vl asg <| nl <| thn <| sq <| sq <| rg <| vl mv <| vl mv <| vl (seqN rfl rfl) <| nl <| thn <| ?_
  have hG13 := (hG1.trans hG2).trans hG3
  have hE3 := hE.mono hG13
  have hT3 := hT.mono hG13
  refine cdP rfl (fun hne => ?_) fun hne => ?_
  ·exact absurd rfl hne
  ·refine sk <| thn <| sq <| rg <| ?_
   refine cl call10 rfl (implEx (l := []) (o := qEmpty) ex_empty hE3 hT3 (by decide) hK) ?_
   rintro _ w ⟨rfl, G4, hG4, hK⟩
   refine vl (seqE rfl rfl) <| vl (aB rfl) <| nl <| thn <| rt <| p1r (a := .bool _) rfl <| ?_
   exact ⟨congrArg Value.bool (decide_eq_true rfl), _, _, hK, hG13.trans hG4⟩
set_option maxHeartbeats 1000000 in
set_option maxHeartbeats 1000000 in
theorem FnExecuteCalm_c (hK : K e w G L) (hE : ErrS 253 6 7 G a0 a1) (hT : Tab G) (hc : BytS G cva code) : Ret prog 7 #[cva] w (fun r w' => r = .bool true ∧ ∃ G' L', K e w' G' L' ∧ VLe G G') := by
 refine enter1 (args := [cva]) func7 rfl rfl rfl rfl ?_
 refine sq <| rg <| ?_
 refine vl (aB rfl) <| nl <| thn <| sq <| sq <| rg <| vl mv <| vl (ln underlying22 rfl hc.len) <| vl (gt rfl rfl) <| nl <| thn <| ?_
 refine cdP rfl (fun hbig => ?_) fun hbig => ?_
 ·refine sq <| rg <| ?_
  refine vl (aB rfl) <| nl <| thn <| rt <| thr <| p1r (a := .bool _) rfl <| ?_
  exact ⟨rfl, _, _, hK, VLe.refl _⟩
 ·refine sk <| thn <| sq <| rg <| ?_
  refine vl mv <| ?_
  refine cl call9 rfl (DrawExecute_c hK hc) ?_
  rintro _ w ⟨t, G1, rfl, htl, hG1, hK⟩
  obtain ⟨o, ho⟩ : ∃ o, exT t = o := ⟨_, rfl⟩
  have hob : o.length ≤ 300000 := ho ▸ exT_bd t
  refine vl asg <| nl <| thn <| sq <| rg <| vl mv <| ?_
  refine cl call10 rfl (implEx ho (hE.mono hG1) (hT.mono hG1) om hK) ?_
  rintro _ w ⟨rfl, G2, hG2, hK⟩
  refine vl asg <| nl <| thn <| sq <| rg <| vl mv <| ?_
  refine cl call11 rfl (specEx ho hK) ?_
  rintro _ w ⟨rfl, G3, hG3, hK⟩
  refine vl asg <| nl <| thn <| sq <| sq <| rg <| vl mv <| vl mv <| vl (seqN rfl rfl) <| nl <| thn <| ?_
  have hG13 := (hG1.trans hG2).trans hG3
  have hE3 := hE.mono hG13
  have hT3 := hT.mono hG13
  refine cdP rfl (fun hne => ?_) fun hne => ?_
  ·exact absurd rfl hne
  ·refine sk <| thn <| sq <| rg <| ?_
   refine cl call10 rfl (implEx (l := tCalm) (o := (qCalm ++ qEmpty)) ex_calm hE3 hT3 (by decide) hK) ?_
   rintro _ w ⟨rfl, G4, hG4, hK⟩
   refine vl (seqE rfl rfl) <| vl (aB rfl) <| nl <| thn <| rt <| p1r (a := .bool _) rfl <| ?_
   exact ⟨congrArg Value.bool (decide_eq_true rfl), _, _, hK, hG13.trans hG4⟩
set_option maxHeartbeats 1000000 in
set_option maxHeartbeats 1000000 in
theorem FnExecuteLines_c (hK : K e w G L) (hE : ErrS 253 6 7 G a0 a1) (hT : Tab G) (hc : BytS G cva code) : Ret prog 3 #[cva] w (fun r w' => r = .bool true ∧ ∃ G' L', K e w' G' L' ∧ VLe G G') := by
 refine enter1 (args := [cva]) func3 rfl rfl rfl rfl ?_
 refine sq <| rg <| ?_
 refine vl (aB rfl) <| nl <| thn <| sq <| sq <| rg <| vl mv <| vl (ln underlying22 rfl hc.len) <| vl (gt rfl rfl) <| nl <| thn <| ?_
 refine cdP rfl (fun hbig => ?_) fun hbig => ?_
 ·refine sq <| rg <| ?_
  refine vl (aB rfl) <| nl <| thn <| rt <| thr <| p1r (a := .bool _) rfl <| ?_
  exact ⟨rfl, _, _, hK, VLe.refl _⟩
 ·refine sk <| thn <| sq <| rg <| ?_
  refine vl mv <| ?_
  refine cl call9 rfl (DrawExecute_c hK hc) ?_
  rintro _ w ⟨t, G1, rfl, htl, hG1, hK⟩
  obtain ⟨o, ho⟩ : ∃ o, exT t = o := ⟨_, rfl⟩
  have hob : o.length ≤ 300000 := ho ▸ exT_bd t
  refine vl asg <| nl <| thn <| sq <| rg <| vl mv <| ?_
  refine cl call10 rfl (implEx ho (hE.mono hG1) (hT.mono hG1) om hK) ?_
  rintro _ w ⟨rfl, G2, hG2, hK⟩
  refine vl asg <| nl <| thn <| sq <| rg <| vl mv <| ?_
  refine cl call11 rfl (specEx ho hK) ?_
  rintro _ w ⟨rfl, G3, hG3, hK⟩
  refine vl asg <| nl <| thn <| sq <| sq <| rg <| vl mv <| vl mv <| vl (seqN rfl rfl) <| nl <| thn <| ?_
  have hG13 := (hG1.trans hG2).trans hG3
  have hE3 := hE.mono hG13
  have hT3 := hT.mono hG13
  refine cdP rfl (fun hne => ?_) fun hne => ?_
  ·exact absurd rfl hne
  ·refine sk <| thn <| sq <| sq <| rg <| ?_
   refine vl mv <| vl (sln underlying9 rfl) <| vl (gt rfl rfl) <| nl <| thn <| ?_
   refine cdP rfl (fun h600 => ?_) fun h600 => ?_
   ·have hol : o = tLong := by rw [← ho]; exact exT_long (by omega)
    refine sq <| rg <| ?_
    refine vl mv <| vl (seqE rfl rfl) <| vl (aB rfl) <| nl <| thn <| rt <| thr <| p1r (a := .bool _) rfl <| ?_
    exact ⟨congrArg Value.bool (decide_eq_true hol), _, _, hK, hG13⟩
   ·have h600' : t.length ≤ 600 := by omega
    have hlaw := law_lines h600'
    rw [ho] at hlaw
    obtain ⟨⟨p, rfl⟩, h13⟩ := hlaw
    have hpl : (p ++ [10]).length = p.length + 1 := by simp
    have hx : ((((p ++ [10])[p.length]'(by omega)).toNat : Nat) : Int) = 10 := by simp
    refine sk <| thn <| sq <| rg <| ?_
    refine vl mv <| vl mv <| vl (sln underlying9 rfl) <| vl (sb rfl rfl) <| vl (six (i := p.length) underlying9 rfl (by exact congrArg (Value.int .i64) (by omega : ((p ++ [10]).length : Int) - 1 = (p.length : Int))) om) <| vl (eq rfl rfl) <| vl (mB rfl) <| ?_
    refine splP (t := 32) rfl (fun hq => ?_) fun hq => ?_
    ·refine gy rfl <| vl mv <| gy rfl <| ?_
     refine cl call12 rfl (lastLines_c hK om) ?_
     rintro _ w ⟨rfl, hK⟩
     refine gy rfl <| vl (sln underlying9 rfl) <| gy rfl <| vl (ge rfl rfl) <| vl (pk rfl) <| vl (aB rfl) <| nl <| thn <| rt <| p1r (a := .bool _) rfl <| ?_
     exact ⟨congrArg Value.bool (decide_eq_true (show (13 : Int) ≤ ((lstT (p ++ [10])).length : Int) by omega)), _, _, hK, hG13⟩
    ·exact absurd hx hq
set_option maxHeartbeats 1000000 in
theorem FnExecuteUnknown_c (hK : K e w G L) (hE : ErrS 253 6 7 G a0 a1) (hT : Tab G) (hc : BytS G cva code) : Ret prog 5 #[cva] w (fun r w' => r = .bool true ∧ ∃ G' L', K e w' G' L' ∧ VLe G G') := by
 refine enter1 (args := [cva]) func5 rfl rfl rfl rfl ?_
 refine sq <| rg <| ?_
 refine vl (aB rfl) <| nl <| thn <| sq <| sq <| rg <| vl mv <| vl (ln underlying22 rfl hc.len) <| vl (gt rfl rfl) <| nl <| thn <| ?_
 refine cdP rfl (fun hbig => ?_) fun hbig => ?_
 ·refine sq <| rg <| ?_
  refine vl (aB rfl) <| nl <| thn <| rt <| thr <| p1r (a := .bool _) rfl <| ?_
  exact ⟨rfl, _, _, hK, VLe.refl _⟩
 ·refine sk <| thn <| sq <| rg <| ?_
  refine vl mv <| ?_
  refine cl call9 rfl (DrawExecute_c hK hc) ?_
  rintro _ w ⟨t, G1, rfl, htl, hG1, hK⟩
  obtain ⟨o, ho⟩ : ∃ o, exT t = o := ⟨_, rfl⟩
  have hob : o.length ≤ 300000 := ho ▸ exT_bd t
  refine vl asg <| nl <| thn <| sq <| rg <| vl mv <| ?_
  refine cl call10 rfl (implEx ho (hE.mono hG1) (hT.mono hG1) om hK) ?_
  rintro _ w ⟨rfl, G2, hG2, hK⟩
  refine vl asg <| nl <| thn <| sq <| rg <| vl mv <| ?_
  refine cl call11 rfl (specEx ho hK) ?_
  rintro _ w ⟨rfl, G3, hG3, hK⟩
  refine vl asg <| nl <| thn <| sq <| sq <| rg <| vl mv <| vl mv <| vl (seqN rfl rfl) <| vl (mB rfl) <| ?_
  have hG13 := (hG1.trans hG2).trans hG3
  have hE3 := hE.mono hG13
  have hT3 := hT.mono hG13
  refine splP (t := 21) rfl (fun hne => ?_) fun hne => ?_
  ·exact absurd rfl hne
  ·refine gy rfl <| vl mv <| gy rfl <| vl (sln underlying9 rfl) <| gy rfl <| vl (ad rfl rfl) <| gy rfl <| vl (gt rfl rfl) <| vl (pk rfl) <| nl <| thn <| ?_
   refine cdP rfl (fun hlong => ?_) fun hlong => ?_
   ·refine sq <| rg <| ?_
    refine vl mv <| vl mv <| vl (seqE rfl rfl) <| vl (aB rfl) <| nl <| thn <| rt <| thr <| p1r (a := .bool _) rfl <| ?_
    exact ⟨congrArg Value.bool (decide_eq_true rfl), _, _, hK, hG13⟩
   ·have hts : t.length + 8 ≤ 600 := by omega
    have hcl := cmp_len t
    refine sk <| thn <| sq <| rg <| ?_
    refine vl mv <| ?_
    refine cl call13 rfl (completeLines_c hK om) ?_
    rintro _ w ⟨rfl, hK⟩
    refine vl (sad rfl rfl (Nat.le_trans (Nat.add_le_add_right hcl 8) om)) <| ?_
    obtain ⟨x, hxe⟩ : ∃ x, exT (cmpT t ++ (tUnknown ++ [10])) = x := ⟨_, rfl⟩
    obtain ⟨y, hye⟩ : ∃ y, exT (cmpT t) = y := ⟨_, rfl⟩
    have hlaw := law_unknown hts
    rw [hxe, hye] at hlaw
    have hyb : y.length ≤ 300000 := hye ▸ exT_bd _
    have hly := lstT_le y
    refine cl call10 rfl (implEx hxe hE3 hT3 (by rw [List.length_append]; exact Nat.le_trans (Nat.add_le_add_right hcl 8) om) hK) ?_
    rintro _ w ⟨rfl, G4, hG4, hK⟩
    refine vl asg <| nl <| thn <| sq <| rg <| vl mv <| ?_
    refine cl call13 rfl (completeLines_c hK om) ?_
    rintro _ w ⟨rfl, hK⟩
    refine cl call10 rfl (implEx hye (hE3.mono hG4) (hT3.mono hG4) om hK) ?_
    rintro _ w ⟨rfl, G5, hG5, hK⟩
    refine vl asg <| nl <| thn <| sq <| rg <| vl mv <| ?_
    refine cl call12 rfl (lastLines_c hK om) ?_
    rintro _ w ⟨rfl, hK⟩
    refine vl asg <| nl <| thn <| sq <| rg <| vl mv <| vl mv <| vl mv <| vl (sln underlying9 rfl) <| vl mv <| vl (sln underlying9 rfl) <| vl (sb rfl rfl) <| vl (sslH (b := y.length - (lstT y).length) underlying9 rfl (by exact congrArg (Value.int .i64) (by omega : ((y.length : Int) - ((lstT y).length : Int)) = ((y.length - (lstT y).length : Nat) : Int))) om) <| vl (sad rfl rfl (by rw [List.length_take]; exact Nat.le_trans (Nat.add_le_add_right (Nat.min_le_right _ _) 5) om)) <| vl mv <| vl (sad rfl rfl (by rw [List.length_append, List.length_take]; exact Nat.le_trans (Nat.add_le_add (Nat.add_le_add_right (Nat.min_le_right _ _) 5) hly) om)) <| vl (seqE rfl rfl) <| vl (aB rfl) <| nl <| thn <| ?_
    refine rt <| p1r (a := .bool _) rfl <| ?_
    exact ⟨congrArg Value.bool (decide_eq_true hlaw), _, _, hK, (hG13.trans hG4).trans hG5⟩
set_option maxHeartbeats 1000000 in
theorem FnExecuteQueries_c (hK : K e w G L) (hE : ErrS 253 6 7 G a0 a1) (hT : Tab G) (hc : BytS G cva code) : Ret prog 4 #[cva] w (fun r w' => r = .bool true ∧ ∃ G' L', K e w' G' L' ∧ VLe G G') := by
 refine enter1 (args := [cva]) func4 rfl rfl rfl rfl ?_
 refine sq <| rg <| ?_
 refine vl (aB rfl) <| nl <| thn <| sq <| sq <| rg <| vl mv <| vl (ln underlying22 rfl hc.len) <| vl (gt rfl rfl) <| nl <| thn <| ?_
 refine cdP rfl (fun hbig => ?_) fun hbig => ?_
 ·refine sq <| rg <| ?_
  refine vl (aB rfl) <| nl <| thn <| rt <| thr <| p1r (a := .bool _) rfl <| ?_
  exact ⟨rfl, _, _, hK, VLe.refl _⟩
 ·refine sk <| thn <| sq <| rg <| ?_
  refine vl mv <| ?_
  refine cl call9 rfl (DrawExecute_c hK hc) ?_
  rintro _ w ⟨t, G1, rfl, htl, hG1, hK⟩
  obtain ⟨o, ho⟩ : ∃ o, exT t = o := ⟨_, rfl⟩
  have hob : o.length ≤ 300000 := ho ▸ exT_bd t
  refine vl asg <| nl <| thn <| sq <| rg <| vl mv <| ?_
  refine cl call10 rfl (implEx ho (hE.mono hG1) (hT.mono hG1) om hK) ?_
  rintro _ w ⟨rfl, G2, hG2, hK⟩
  refine vl asg <| nl <| thn <| sq <| rg <| vl mv <| ?_
  refine cl call11 rfl (specEx ho hK) ?_
  rintro _ w ⟨rfl, G3, hG3, hK⟩
  refine vl asg <| nl <| thn <| sq <| sq <| rg <| vl mv <| vl mv <| vl (seqN rfl rfl) <| vl (mB rfl) <| ?_
  have hG13 := (hG1.trans hG2).trans hG3
  have hE3 := hE.mono hG13
  have hT3 := hT.mono hG13
  refine splP (t := 20) rfl (fun hne => ?_) fun hne => ?_
  ·exact absurd rfl hne
  ·refine gy rfl <| vl mv <| gy rfl <| vl (sln underlying9 rfl) <| gy rfl <| vl (ad rfl rfl) <| gy rfl <| vl (gt rfl rfl) <| vl (pk rfl) <| nl <| thn <| ?_
   refine cdP rfl (fun hlong => ?_) fun hlong => ?_
   ·refine sq <| rg <| ?_
    refine vl mv <| vl mv <| vl (seqE rfl rfl) <| vl (aB rfl) <| nl <| thn <| rt <| thr <| p1r (a := .bool _) rfl <| ?_
    exact ⟨congrArg Value.bool (decide_eq_true rfl), _, _, hK, hG13⟩
   ·have hts : t.length + 10 ≤ 600 := by omega
    have hcl := cmp_len t
    refine sk <| thn <| sq <| rg <| ?_
    refine vl mv <| ?_
    refine cl call13 rfl (completeLines_c hK om) ?_
    rintro _ w ⟨rfl, hK⟩
    refine vl asg <| nl <| thn <| sq <| rg <| vl mv <| ?_
    obtain ⟨s, hse⟩ : ∃ s, cmpT t = s := ⟨_, rfl⟩
    obtain ⟨y, hye⟩ : ∃ y, exT (cmpT t) = y := ⟨_, rfl⟩
    obtain ⟨x1, hx1⟩ : ∃ x, exT (cmpT t ++ (nmRing ++ [10])) = x := ⟨_, rfl⟩
    obtain ⟨x2, hx2⟩ : ∃ x, exT (cmpT t ++ (nmLeases ++ [10])) = x := ⟨_, rfl⟩
    obtain ⟨x3, hx3⟩ : ∃ x, exT (cmpT t ++ (qOwner ++ [10])) = x := ⟨_, rfl⟩
    have q1 := law_query (t := t) (q := nmRing) (show t.length + 5 ≤ 600 by omega) (by decide) q_ring
    have q2 := law_query (t := t) (q := nmLeases) (show t.length + 7 ≤ 600 by omega) (by decide) q_leases
    have q3 := law_query (t := t) (q := qOwner) (show t.length + 8 ≤ 600 by omega) (by decide) q_owner
    rw [hx1, hye] at q1
    rw [hx2, hye] at q2
    rw [hx3, hye] at q3
    have hyb : y.length ≤ 300000 := hye ▸ exT_bd _
    have hb1 : x1.length ≤ 300000 := hx1 ▸ exT_bd _
    have hb2 : x2.length ≤ 300000 := hx2 ▸ exT_bd _
    have hb3 : x3.length ≤ 300000 := hx3 ▸ exT_bd _
    have hcb : ∀ k, k ≤ 100 → (cmpT t).length + k ≤ 1000 := fun k hk => by omega
    refine cl call10 rfl (implEx hye hE3 hT3 om hK) ?_
    rintro _ w ⟨rfl, G4, hG4, hK⟩
    refine cl call12 rfl (lastLines_c hK om) ?_
    rintro _ w ⟨rfl, hK⟩
    refine vl asg <| nl <| thn <| sq <| rg <| vl mv <| vl (sad rfl rfl (Nat.le_trans (hcb 5 (by decide)) (by decide))) <| ?_
    refine cl call10 rfl (implEx hx1 (hE3.mono hG4) (hT3.mono hG4) (by rw [List.length_append]; exact Nat.le_trans (hcb 5 (by decide)) (by decide)) hK) ?_
    rintro _ w ⟨rfl, G5, hG5, hK⟩
    refine cl call12 rfl (lastLines_c hK om) ?_
    rintro _ w ⟨rfl, hK⟩
    refine vl mv <| vl (seqE rfl rfl) <| vl (mB rfl) <| ?_
    refine splP (t := 40) rfl (fun e1 => ?_) fun e1 => ?_
    ·refine gy rfl <| vl mv <| gy rfl <| vl (sad rfl rfl (Nat.le_trans (hcb 7 (by decide)) (by decide))) <| gy rfl <| ?_
     refine cl call10 rfl (implEx hx2 (hE3.mono (hG4.trans hG5)) (hT3.mono (hG4.trans hG5)) (by rw [List.length_append]; exact Nat.le_trans (hcb 7 (by decide)) (by decide)) hK) ?_
     rintro _ w ⟨rfl, G6, hG6, hK⟩
     refine gy rfl <| ?_
     refine cl call12 rfl (lastLines_c hK om) ?_
     rintro _ w ⟨rfl, hK⟩
     refine gy rfl <| vl mv <| gy rfl <| vl (seqE rfl rfl) <| vl (pk rfl) <| vl (mB rfl) <| ?_
     refine splP (t := 48) rfl (fun e2 => ?_) fun e2 => ?_
     ·refine gy rfl <| vl mv <| gy rfl <| vl (sad rfl rfl (Nat.le_trans (hcb 8 (by decide)) (by decide))) <| gy rfl <| ?_
      refine cl call10 rfl (implEx hx3 (hE3.mono ((hG4.trans hG5).trans hG6)) (hT3.mono ((hG4.trans hG5).trans hG6)) (by rw [List.length_append]; exact Nat.le_trans (hcb 8 (by decide)) (by decide)) hK) ?_
      rintro _ w ⟨rfl, G7, hG7, hK⟩
      refine gy rfl <| ?_
      refine cl call12 rfl (lastLines_c hK om) ?_
      rintro _ w ⟨rfl, hK⟩
      refine gy rfl <| vl mv <| gy rfl <| vl (seqE rfl rfl) <| vl (pk rfl) <| vl (aB rfl) <| nl <| thn <| rt <| p1r (a := .bool _) rfl <| ?_
      exact ⟨congrArg Value.bool (decide_eq_true q3), _, _, hK, (((hG13.trans hG4).trans hG5).trans hG6).trans hG7⟩
     ·exact absurd q2 e2
    ·exact absurd q1 e1
set_option maxHeartbeats 1000000 in
theorem FnExactExecute_c (hK : K e w G L) (hE : ErrS 253 6 7 G a0 a1) (hT : Tab G) : Ret prog 6 #[Sv l] w (fun r w' => r = .bool true ∧ ∃ G' L', K e w' G' L' ∧ VLe G G') := by
 refine enter1 (args := [Sv l]) func6 rfl rfl rfl rfl ?_
 refine sq <| rg <| ?_
 refine vl (aB rfl) <| nl <| thn <| sq <| sq <| rg <| vl mv <| vl (sln underlying9 rfl) <| vl (gt rfl rfl) <| nl <| thn <| ?_
 refine cdP rfl (fun hbig => ?_) fun hbig => ?_
 ·refine sq <| rg <| ?_
  refine vl (aB rfl) <| nl <| thn <| rt <| thr <| p1r (a := .bool _) rfl <| ?_
  exact ⟨rfl, _, _, hK, VLe.refl _⟩
 ·obtain ⟨o, ho⟩ : ∃ o, exT l = o := ⟨_, rfl⟩
  refine sk <| thn <| sq <| rg <| ?_
  refine vl mv <| ?_
  refine cl call11 rfl (specEx ho hK) ?_
  rintro _ w ⟨rfl, G1, hG1, hK⟩
  refine vl asg <| nl <| thn <| sq <| rg <| vl mv <| ?_
  refine cl call10 rfl (implEx ho (hE.mono hG1) (hT.mono hG1) om hK) ?_
  rintro _ w ⟨rfl, G2, hG2, hK⟩
  refine vl asg <| nl <| thn <| sq <| sq <| rg <| vl mv <| vl mv <| vl (seqN rfl rfl) <| nl <| thn <| ?_
  refine cdP rfl (fun hne => ?_) fun hne => ?_
  ·exact absurd rfl hne
  ·refine sk <| thn <| sq <| rg <| ?_
   refine vl (aB rfl) <| nl <| thn <| rt <| p1r (a := .bool _) rfl <| ?_
   exact ⟨rfl, _, _, hK, hG1.trans hG2⟩
end
end Go.Proofs.YtbiihblpgfgaoaaGreatDoor
