/- Contracts of the functions that mark a world's cells and look whether the marks held. Conditions: those that each row states. -/
import Derived.Test.YtmgggljicpmndaaGreatDoorSe
import Derived.Test.YtmgggljicpmndaaGreatDoorXr1
import Derived.Test.YtmgggljicpmndaaGreatDoorRgG
namespace Go.Proofs.YtmgggljicpmndaaGreatDoor
open Go Go.Ro Tryz
section
variable {e w : World} {G : View} {L A AR AL AI AT AS : Own} {v u t t2 : Value} {xs ys ks ts us : List Int} {ls ms : List Ls} {zs : List It} {rs qs : List Rn} {os : List Ron} {W : Wv} {wd : Wd} {n m k : Int}
theorem markIntZ_c (hK : K e w G (A ++ L)) (ho : OZ 1 3 v xs.length (ints xs) A) (h0 : 0 ≤ k) (h1 : k + xs.length ≤ 1000000000000000) :
  Ret prog 13 #[v, .int .i64 k] w (fun r w' => r = .int .i64 (k + xs.length) ∧ ∃ A', OZ 1 3 v xs.length (ints (marks k xs.length)) A' ∧ K e w' G (A' ++ L)) := by
 refine enter1 (args := [v, .int .i64 k]) func13 rfl rfl rfl rfl ?_
 refine sq <| rg <| ?_
 refine vl (aI rfl) <| nl <| thn <| sq <| sq <| rg <| vl (aI rfl) <| nl <| thn <| bk <| ?_
 refine lp (σ := Nat × Own) (fun s => [(0, v), (1, .int .i64 (k + (s.1 : Int))), (5, .int .i64 (s.1 : Int))]) (fun s w => s.1 ≤ xs.length ∧ OZ 1 3 v xs.length (ints (marks k s.1 ++ xs.drop s.1)) s.2 ∧ K e w G (s.2 ++ L)) (fun s => xs.length - s.1) (0, A) ⟨rfl, (by show Value.int .i64 k = Value.int .i64 (k + ((0 : Nat) : Int)); simp), rfl, trivial⟩ ⟨Nat.zero_le _, by simpa [marks] using ho, hK⟩ ?_
 rintro ⟨i, A⟩ g w ⟨hi, ho, hK⟩
 simp only at hi ho hK
 refine sq <| sq <| rg <| ?_
 refine vl (mI rfl) <| vl mv <| vl (ln underlying22 rfl ho.len) <| vl (lt rfl rfl) <| nl <| thn <| ?_
 refine cdP rfl (fun hc => ?_) fun hc => ?_
 ·have hi' : i < xs.length := by simp only at hc; omega
  have hos := ho.os (by omega)
  refine sk <| thn <| sq <| bk <| sq <| rg <| ?_
  refine vl mv <| vl (mI rfl) <| vl (mI rfl) <| vl (ixn1 underlying22 Ty.s3 rfl ho.slw rfl om) <| ?_
  refine osSet (i := i) (u := .int .i64 (k + (i : Int))) hK hos om Ty.i3 rfl rfl rfl rfl fun A' w ho hK => ?_
  rw [ints_set, marks_set (m := xs.length) rfl hi'] at ho
  refine nl <| thn <| rg <| vl (mI rfl) <| vl (ad rfl rfl) <| vl (aI rfl) <| nl <| bkn <| thn <| rg <| vl (mI rfl) <| vl (ad rfl rfl) <| vl (aI rfl) <| nl <| thn <| ?_
  refine ⟨(i + 1, A'), ⟨rfl, ?_, rfl, trivial⟩, ⟨hi', .inl ho, hK⟩, by simp only; omega⟩
  show Value.int .i64 (k + (i : Int) + 1) = Value.int .i64 (k + ((i + 1 : Nat) : Int))
  congr 1; omega
 ·have : i = xs.length := by simp only at hc; omega
  subst this
  refine ex <| the <| the <| bkh <| thn <| sq <| rg <| ?_
  refine vl (mI rfl) <| vl (aI rfl) <| nl <| thn <| rt <| p1r (a := .int _ _) rfl <| ?_
  exact ⟨rfl, A, by simpa using ho, hK⟩
theorem markLeaseZ_c (hK : K e w G (A ++ L)) (ho : OZ 3 101 v ls.length (ls.flatMap lc) A) (h0 : 0 ≤ k) (h1 : k + 3 * ls.length ≤ 1000000000000000) :
  Ret prog 33 #[v, .int .i64 k] w (fun r w' => r = .int .i64 (k + 3 * ls.length) ∧ ∃ A', OZ 3 101 v ls.length ((lmk k ls.length).flatMap lc) A' ∧ K e w' G (A' ++ L)) := by
 refine enter1 (args := [v, .int .i64 k]) func33 rfl rfl rfl rfl ?_
 refine sq <| rg <| ?_
 refine vl (aI rfl) <| nl <| thn <| sq <| sq <| rg <| vl (aI rfl) <| nl <| thn <| bk <| ?_
 refine lp (σ := Nat × Own) (fun s => [(0, v), (1, .int .i64 (k + 3 * (s.1 : Int))), (5, .int .i64 (s.1 : Int))]) (fun s w => s.1 ≤ ls.length ∧ OZ 3 101 v ls.length ((lmk k s.1 ++ ls.drop s.1).flatMap lc) s.2 ∧ K e w G (s.2 ++ L)) (fun s => ls.length - s.1) (0, A) ⟨rfl, (by show Value.int .i64 k = Value.int .i64 (k + 3 * ((0 : Nat) : Int)); simp), rfl, trivial⟩ ⟨Nat.zero_le _, by simpa [lmk] using ho, hK⟩ ?_
 rintro ⟨i, A⟩ g w ⟨hi, ho, hK⟩
 simp only at hi ho hK
 refine sq <| sq <| rg <| ?_
 refine vl (mI rfl) <| vl mv <| vl (ln underlying26 rfl ho.len) <| vl (lt rfl rfl) <| nl <| thn <| ?_
 refine cdP rfl (fun hc => ?_) fun hc => ?_
 ·have hi' : i < ls.length := by simp only at hc; omega
  have hos := ho.os (by omega)
  have hx0 : (lmk k i ++ ls.drop i)[i]? = some ls[i] := by rw [List.getElem?_append_right (by rw [lmk_len]; omega), lmk_len, Nat.sub_self, List.getElem?_drop, Nat.add_zero, List.getElem?_eq_getElem hi']
  have hxl : i < (lmk k i ++ ls.drop i).length := (List.getElem?_eq_some_iff.1 hx0).1
  refine sk <| thn <| sq <| bk <| sq <| rg <| ?_
  refine vl mv <| vl (mI rfl) <| vl (mI rfl) <| vl (ixn underlying26 Ty.s101 rfl ho.slw rfl om) <| vl (fe underlying101 rfl Ty.z3 rfl ho.slw om) <| ?_
  refine osSetC (i := i * 3 + 0) (u := .int .i64 (k + 3 * (i : Int))) hK hos om Ty.i3 rfl rfl rfl rfl fun A' w ho hK => ?_
  rw [flat_set (c := lc) (sz := 3) (fun _ => rfl) _ i 0 ls[i] (k + 3 * (i : Int), ls[i].2) _ hx0 (by omega) rfl] at ho
  refine nl <| thn <| sq <| rg <| vl (mI rfl) <| vl (ad rfl rfl) <| vl (aI rfl) <| nl <| thn <| sq <| rg <| vl mv <| vl (mI rfl) <| vl (mI rfl) <| vl (ixn underlying26 Ty.s101 rfl ho.slw rfl om) <| vl (fe underlying101 rfl Ty.z3 rfl ho.slw om) <| ?_
  refine osSetC (i := i * 3 + 1) (u := .int .i64 (k + 3 * (i : Int) + 1)) hK ho om Ty.i3 rfl rfl rfl rfl fun A' w ho hK => ?_
  rw [flat_set (c := lc) (sz := 3) (fun _ => rfl) _ i 1 (k + 3 * (i : Int), ls[i].2) (k + 3 * (i : Int), k + 3 * (i : Int) + 1, ls[i].2.2) _ (List.getElem?_set_self hxl) (by omega) rfl, List.set_set] at ho
  refine nl <| thn <| sq <| rg <| vl (mI rfl) <| vl (ad rfl rfl) <| vl (aI rfl) <| nl <| thn <| sq <| rg <| vl mv <| vl (mI rfl) <| vl (mI rfl) <| vl (ixn underlying26 Ty.s101 rfl ho.slw rfl om) <| vl (fe underlying101 rfl Ty.z3 rfl ho.slw om) <| ?_
  refine osSetC (i := i * 3 + 2) (u := .int .i64 (k + 3 * (i : Int) + 1 + 1)) hK ho om Ty.i3 rfl rfl rfl rfl fun A' w ho hK => ?_
  rw [flat_set (c := lc) (sz := 3) (fun _ => rfl) _ i 2 (k + 3 * (i : Int), k + 3 * (i : Int) + 1, ls[i].2.2) (k + 3 * (i : Int), k + 3 * (i : Int) + 1, k + 3 * (i : Int) + 2) _ (List.getElem?_set_self hxl) (by omega) (by show lc _ = [_, _, Value.int .i64 (k + 3 * (i : Int) + 1 + 1)]; rw [show k + 3 * (i : Int) + 1 + 1 = k + 3 * (i : Int) + 2 by omega]; rfl), List.set_set, lmk_set rfl hi'] at ho
  refine nl <| thn <| rg <| vl (mI rfl) <| vl (ad rfl rfl) <| vl (aI rfl) <| nl <| bkn <| thn <| rg <| vl (mI rfl) <| vl (ad rfl rfl) <| vl (aI rfl) <| nl <| thn <| ?_
  refine ⟨(i + 1, A'), ⟨rfl, ?_, rfl, trivial⟩, ⟨hi', .inl ho, hK⟩, by simp only; omega⟩
  show Value.int .i64 (k + 3 * (i : Int) + 1 + 1 + 1) = Value.int .i64 (k + 3 * ((i + 1 : Nat) : Int))
  congr 1; omega
 ·have : i = ls.length := by simp only at hc; omega
  subst this
  refine ex <| the <| the <| bkh <| thn <| sq <| rg <| ?_
  refine vl (mI rfl) <| vl (aI rfl) <| nl <| thn <| rt <| p1r (a := .int _ _) rfl <| ?_
  exact ⟨rfl, A, by simpa using ho, hK⟩
theorem markItemZ_c (hK : K e w G (A ++ L)) (ho : OZ 2 104 v zs.length (zs.flatMap ic) A) (h0 : 0 ≤ k) (h1 : k + 2 * zs.length ≤ 1000000000000000) :
  Ret prog 34 #[v, .int .i64 k] w (fun r w' => r = .int .i64 (k + 2 * zs.length) ∧ ∃ A', OZ 2 104 v zs.length ((imk k zs.length).flatMap ic) A' ∧ K e w' G (A' ++ L)) := by
 refine enter1 (args := [v, .int .i64 k]) func34 rfl rfl rfl rfl ?_
 refine sq <| rg <| ?_
 refine vl (aI rfl) <| nl <| thn <| sq <| sq <| rg <| vl (aI rfl) <| nl <| thn <| bk <| ?_
 refine lp (σ := Nat × Own) (fun s => [(0, v), (1, .int .i64 (k + 2 * (s.1 : Int))), (5, .int .i64 (s.1 : Int))]) (fun s w => s.1 ≤ zs.length ∧ OZ 2 104 v zs.length ((imk k s.1 ++ zs.drop s.1).flatMap ic) s.2 ∧ K e w G (s.2 ++ L)) (fun s => zs.length - s.1) (0, A) ⟨rfl, (by show Value.int .i64 k = Value.int .i64 (k + 2 * ((0 : Nat) : Int)); simp), rfl, trivial⟩ ⟨Nat.zero_le _, by simpa [imk] using ho, hK⟩ ?_
 rintro ⟨i, A⟩ g w ⟨hi, ho, hK⟩
 simp only at hi ho hK
 refine sq <| sq <| rg <| ?_
 refine vl (mI rfl) <| vl mv <| vl (ln underlying27 rfl ho.len) <| vl (lt rfl rfl) <| nl <| thn <| ?_
 refine cdP rfl (fun hc => ?_) fun hc => ?_
 ·have hi' : i < zs.length := by simp only at hc; omega
  have hos := ho.os (by omega)
  have hx0 : (imk k i ++ zs.drop i)[i]? = some zs[i] := by rw [List.getElem?_append_right (by rw [imk_len]; omega), imk_len, Nat.sub_self, List.getElem?_drop, Nat.add_zero, List.getElem?_eq_getElem hi']
  have hxl : i < (imk k i ++ zs.drop i).length := (List.getElem?_eq_some_iff.1 hx0).1
  refine sk <| thn <| sq <| bk <| sq <| rg <| ?_
  refine vl mv <| vl (mI rfl) <| vl (mI rfl) <| vl (ixn underlying27 Ty.s104 rfl ho.slw rfl om) <| vl (fe underlying104 rfl Ty.z3 rfl ho.slw om) <| ?_
  refine osSetC (i := i * 2 + 0) (u := .int .i64 (k + 2 * (i : Int))) hK hos om Ty.i3 rfl rfl rfl rfl fun A' w ho hK => ?_
  rw [flat_set (c := ic) (sz := 2) (fun _ => rfl) _ i 0 zs[i] (k + 2 * (i : Int), zs[i].2) _ hx0 (by omega) rfl] at ho
  refine nl <| thn <| sq <| rg <| vl (mI rfl) <| vl (ad rfl rfl) <| vl (aI rfl) <| nl <| thn <| sq <| rg <| vl mv <| vl (mI rfl) <| vl (mI rfl) <| vl (ixn underlying27 Ty.s104 rfl ho.slw rfl om) <| vl (fe underlying104 rfl Ty.z3 rfl ho.slw om) <| ?_
  refine osSetC (i := i * 2 + 1) (u := .int .i64 (k + 2 * (i : Int) + 1)) hK ho om Ty.i3 rfl rfl rfl rfl fun A' w ho hK => ?_
  rw [flat_set (c := ic) (sz := 2) (fun _ => rfl) _ i 1 (k + 2 * (i : Int), zs[i].2) (k + 2 * (i : Int), k + 2 * (i : Int) + 1) _ (List.getElem?_set_self hxl) (by omega) rfl, List.set_set, imk_set rfl hi'] at ho
  refine nl <| thn <| rg <| vl (mI rfl) <| vl (ad rfl rfl) <| vl (aI rfl) <| nl <| bkn <| thn <| rg <| vl (mI rfl) <| vl (ad rfl rfl) <| vl (aI rfl) <| nl <| thn <| ?_
  refine ⟨(i + 1, A'), ⟨rfl, ?_, rfl, trivial⟩, ⟨hi', .inl ho, hK⟩, by simp only; omega⟩
  show Value.int .i64 (k + 2 * (i : Int) + 1 + 1) = Value.int .i64 (k + 2 * ((i + 1 : Nat) : Int))
  congr 1; omega
 ·have : i = zs.length := by simp only at hc; omega
  subst this
  refine ex <| the <| the <| bkh <| thn <| sq <| rg <| ?_
  refine vl (mI rfl) <| vl (aI rfl) <| nl <| thn <| rt <| p1r (a := .int _ _) rfl <| ?_
  exact ⟨rfl, A, by simpa using ho, hK⟩
set_option maxHeartbeats 1000000 in
theorem markNodeZ_c (hK : K e w G (AR ++ (flat (uso os) ++ L))) (ho : OZ 3 98 v os.length ((toRs os).flatMap rc) AR) (hz : OZS 3 (uso os)) (h0 : 0 ≤ k) (h1 : k + nsz (toRs os) ≤ 1000000000000000) :
  Ret prog 32 #[v, .int .i64 k] w (fun r w' => r = .int .i64 (k + nsz (toRs os)) ∧ ∃ os' AR', os'.length = os.length ∧ nsz (toRs os') = nsz (toRs os) ∧ NMk k (toRs os') os'.length ∧ OZ 3 98 v os'.length ((toRs os').flatMap rc) AR' ∧ OZS 3 (uso os') ∧ K e w' G (AR' ++ (flat (uso os') ++ L))) := by
 refine enter1 (args := [v, .int .i64 k]) func32 rfl rfl rfl rfl ?_
 refine sq <| rg <| ?_
 refine vl (aI rfl) <| nl <| thn <| sq <| sq <| rg <| vl (aI rfl) <| nl <| thn <| bk <| ?_
 refine lp (σ := Nat × List Ron × Own) (fun s => [(0, v), (1, .int .i64 (k + (nsz ((toRs os).take s.1) : Int))), (5, .int .i64 (s.1 : Int))]) (fun s w => s.1 ≤ os.length ∧ s.2.1.length = os.length ∧ (∀ j, nsz ((toRs s.2.1).take j) = nsz ((toRs os).take j)) ∧ NMk k (toRs s.2.1) s.1 ∧ OZ 3 98 v os.length ((toRs s.2.1).flatMap rc) s.2.2 ∧ OZS 3 (uso s.2.1) ∧ K e w G (s.2.2 ++ (flat (uso s.2.1) ++ L))) (fun s => os.length - s.1) (0, os, AR) ⟨rfl, (by show Value.int .i64 k = Value.int .i64 (k + ((0 : Nat) : Int)); simp), rfl, trivial⟩ ⟨Nat.zero_le _, rfl, fun _ => rfl, fun i _ h => absurd h (Nat.not_lt_zero _), ho, hz, hK⟩ ?_
 rintro ⟨i, op, A⟩ g w ⟨hi, hol, hsz, hm, ho, hz, hK⟩
 simp only at hi hol hsz hm ho hz hK
 refine sq <| sq <| rg <| ?_
 refine vl (mI rfl) <| vl mv <| vl (ln underlying25 rfl ho.len) <| vl (lt rfl rfl) <| nl <| thn <| ?_
 refine cdP rfl (fun hc => ?_) fun hc => ?_
 ·have hi' : i < os.length := by simp only at hc; omega
  have hi2 : i < op.length := by omega
  have hi3 : i < (toRs op).length := by rw [toRs_len]; exact hi2
  have hos := ho.os (by omega)
  have hle := ho.slw.le
  have hzi := hz.at hi2
  have hg := toRs_get hi2
  have hn1 := nsz_succ (rs := toRs op) hi3
  rw [hg, hsz i, hsz (i + 1)] at hn1
  have hn1' : nsz ((toRs os).take (i + 1)) = nsz ((toRs os).take i) + 2 + op[i].2.2.2.1.length := hn1
  clear hn1
  have hn2 := nsz_le (rs := toRs os) (i := i + 1)
  refine sk <| thn <| sq <| bk <| sq <| rg <| ?_
  refine vl mv <| vl (mI rfl) <| vl (mI rfl) <| vl (ixn underlying25 Ty.s98 rfl ho.slw rfl om) <| vl (fe underlying98 rfl Ty.z3 rfl ho.slw om) <| ?_
  refine osSetC (i := i * 3 + 0) (u := .int .i64 (k + (nsz ((toRs os).take i) : Int))) hK hos om Ty.i3 rfl rfl rfl rfl fun A' w ho hK => ?_
  rw [flat_setR (y := (k + (nsz ((toRs os).take i) : Int), op[i].2.1, op[i].2.2.1, op[i].2.2.2.1)) hi3 (by omega) (by rw [hg]; rfl)] at ho
  refine nl <| thn <| sq <| rg <| vl (mI rfl) <| vl (ad rfl rfl) <| vl (aI rfl) <| nl <| thn <| sq <| rg <| vl mv <| vl (mI rfl) <| vl (mI rfl) <| vl (ixn underlying25 Ty.s98 rfl ho.slw rfl om) <| vl (fe underlying98 rfl Ty.z3 rfl ho.slw om) <| ?_
  refine osSetC (i := i * 3 + 1) (u := .int .i64 (k + (nsz ((toRs os).take i) : Int) + 1)) hK ho om Ty.i3 rfl rfl rfl rfl fun A' w ho hK => ?_
  rw [flat_setR (y := (k + (nsz ((toRs os).take i) : Int), k + (nsz ((toRs os).take i) : Int) + 1, op[i].2.2.1, marks (k + (nsz ((toRs os).take i) : Int) + 1 + 1) op[i].2.2.2.1.length)) (by rw [List.length_set]; exact hi3) (by omega) (by rw [List.getElem_set_self]; rfl), List.set_set] at ho
  have hcell : (((toRs op).set i (k + (nsz ((toRs os).take i) : Int), k + (nsz ((toRs os).take i) : Int) + 1, op[i].2.2.1, marks (k + (nsz ((toRs os).take i) : Int) + 1 + 1) op[i].2.2.2.1.length)).flatMap rc)[i * 3 + 2]? = some op[i].2.2.1 := by
   rw [flat_get' rc_len _ i 2 _ (List.getElem?_set_self hi3) (by omega)]; rfl
  refine nl <| thn <| sq <| rg <| vl (mI rfl) <| vl (ad rfl rfl) <| vl (aI rfl) <| nl <| thn <| rg <| vl mv <| vl (mI rfl) <| vl (ixn underlying25 Ty.s98 rfl ho.slw rfl om) <| vl (fe underlying98 rfl Ty.z22 rfl ho.slw om) <| vl (ldC Ty.o22 rfl (ho.cell hK hcell)) <| vl (mI rfl) <| ?_
  rw [flat_at hi2] at hK
  replace hK : K _ _ _ (op[i].2.2.2.2 ++ (A' ++ (flat (uso (op.take i)) ++ (flat (uso (op.drop (i + 1))) ++ L)))) := hK.reo
  refine cl call13 rfl (markIntZ_c hK hzi om om) ?_
  rintro _ w ⟨rfl, A2, hzn, hK⟩
  have hK2 : K e w G (A' ++ (flat (uso (op.set i (k + (nsz ((toRs os).take i) : Int), k + (nsz ((toRs os).take i) : Int) + 1, op[i].2.2.1, marks (k + (nsz ((toRs os).take i) : Int) + 1 + 1) op[i].2.2.2.1.length, A2))) ++ L)) := by rw [flat_put hi2]; exact K.reo hK
  have hml := marks_len (k + (nsz ((toRs os).take i) : Int) + 1 + 1) op[i].2.2.2.1.length
  refine vl (aI rfl) <| nl <| bkn <| thn <| rg <| vl (mI rfl) <| vl (ad rfl rfl) <| vl (aI rfl) <| nl <| thn <| ?_
  refine ⟨(i + 1, op.set i (k + (nsz ((toRs os).take i) : Int), k + (nsz ((toRs os).take i) : Int) + 1, op[i].2.2.1, marks (k + (nsz ((toRs os).take i) : Int) + 1 + 1) op[i].2.2.2.1.length, A2), A'), ⟨rfl, congrArg (Value.int .i64) (by simp only; omega), rfl, trivial⟩, ⟨hi', by simp only [List.length_set]; exact hol, ?_, ?_, ?_, ?_, hK2⟩, by simp only; omega⟩
  ·intro j
   simp only
   rw [toRs_set, nsz_set hi3 (by rw [hg]; exact hml), hsz]
  ·simp only
   rw [toRs_set]
   refine hm.step hi3 (by rw [hsz i]; rfl) (by rw [hsz i]; rfl) ?_
   rw [hsz i, hg]
   show marks _ _ = marks _ _
   rw [show k + (nsz ((toRs os).take i) : Int) + 1 + 1 = k + (nsz ((toRs os).take i) : Int) + 2 by omega]; rfl
  ·simp only
   rw [toRs_set]; exact .inl ho
  ·simp only
   refine hz.put ?_
   simp only
   rw [hml]; exact hzn
 ·have hi' : i = os.length := by simp only at hc; omega
  subst hi'
  refine ex <| the <| the <| bkh <| thn <| sq <| rg <| ?_
  refine vl (mI rfl) <| vl (aI rfl) <| nl <| thn <| rt <| p1r (a := .int _ _) rfl <| ?_
  refine ⟨congrArg (Value.int .i64) (by rw [List.take_of_length_le (by rw [toRs_len]; omega)]), op, A, hol, ?_, by rw [hol]; exact hm, by rw [hol]; exact ho, hz, hK⟩
  have := hsz os.length
  rw [List.take_of_length_le (by rw [toRs_len]; omega), List.take_of_length_le (by rw [toRs_len]; omega)] at this
  exact this
theorem heldLeaseS_c (hK : K e w G L) (hv : LeaS G v ls) (hm : ls = lmk k ls.length) (h0 : 0 ≤ k) (h1 : k + 3 * ls.length ≤ 1000000000000000) :
  Ret prog 37 #[v, .int .i64 k] w (fun r w' => r = .int .i64 (k + 3 * ls.length) ∧ K e w' G L) := by
 have hle := hv.le
 refine enter1 (args := [v, .int .i64 k]) func37 rfl rfl rfl rfl ?_
 refine sq <| rg <| ?_
 refine vl (aI rfl) <| nl <| thn <| sq <| sq <| rg <| vl (aI rfl) <| nl <| thn <| bk <| ?_
 refine lp (σ := Nat) (fun i => [(0, v), (1, .int .i64 (k + 3 * (i : Int))), (5, .int .i64 (i : Int))]) (fun i w => i ≤ ls.length ∧ K e w G L) (fun i => ls.length - i) 0 ⟨rfl, (by show Value.int .i64 k = Value.int .i64 (k + 3 * ((0 : Nat) : Int)); simp), rfl, trivial⟩ ⟨Nat.zero_le _, hK⟩ ?_
 rintro i g w ⟨hi, hK⟩
 refine sq <| sq <| rg <| ?_
 refine vl (mI rfl) <| vl mv <| vl (ln underlying26 rfl hv.len) <| vl (lt rfl rfl) <| nl <| thn <| ?_
 refine cdP rfl (fun hc => ?_) fun hc => ?_
 ·have hi' : i < ls.length := by omega
  have hx : ls[i] = (k + 3 * (i : Int), k + 3 * (i : Int) + 1, k + 3 * (i : Int) + 2) := by
   have h2 : ls[i]? = (lmk k ls.length)[i]? := by rw [← hm]
   rw [List.getElem?_eq_getElem hi', List.getElem?_eq_getElem (by rw [lmk_len]; exact hi')] at h2
   rw [Option.some.inj h2, lmk_get]
  have hx1 := congrArg (·.1) hx
  have hx2 := congrArg (·.2.1) hx
  have hx3 := congrArg (·.2.2) hx
  simp only at hx1 hx2 hx3
  refine sk <| thn <| sq <| bk <| sq <| sq <| rg <| ?_
  refine vl mv <| vl (mI rfl) <| vl (ixn underlying26 Ty.s101 rfl hv.1 rfl om) <| vl (fe underlying101 rfl Ty.z3 rfl hv.1 om) <| vl (ldV hK Ty.o3 rfl (hv.cell om 0 rfl)) <| vl (mI rfl) <| vl (ne rfl rfl) <| nl <| thn <| ?_
  refine cdP rfl (fun hn1 => ?_) fun hn1 => ?_
  ·have _ := trivial
   omega
  ·refine sk <| thn <| sq <| rg <| ?_
   refine vl (mI rfl) <| vl (ad rfl rfl) <| vl (aI rfl) <| nl <| thn <| sq <| sq <| rg <| vl mv <| vl (mI rfl) <| vl (ixn underlying26 Ty.s101 rfl hv.1 rfl om) <| vl (fe underlying101 rfl Ty.z3 rfl hv.1 om) <| vl (ldV hK Ty.o3 rfl (hv.cell om 1 rfl)) <| vl (mI rfl) <| vl (ne rfl rfl) <| nl <| thn <| ?_
   refine cdP rfl (fun hn2 => ?_) fun hn2 => ?_
   ·have _ := trivial
    omega
   ·refine sk <| thn <| sq <| rg <| ?_
    refine vl (mI rfl) <| vl (ad rfl rfl) <| vl (aI rfl) <| nl <| thn <| sq <| sq <| rg <| vl mv <| vl (mI rfl) <| vl (ixn underlying26 Ty.s101 rfl hv.1 rfl om) <| vl (fe underlying101 rfl Ty.z3 rfl hv.1 om) <| vl (ldV hK Ty.o3 rfl (hv.cell om 2 rfl)) <| vl (mI rfl) <| vl (ne rfl rfl) <| nl <| thn <| ?_
    refine cdP rfl (fun hn3 => ?_) fun hn3 => ?_
    ·have _ := trivial
     omega
    ·refine sk <| thn <| rg <| ?_
     refine vl (mI rfl) <| vl (ad rfl rfl) <| vl (aI rfl) <| nl <| bkn <| thn <| rg <| vl (mI rfl) <| vl (ad rfl rfl) <| vl (aI rfl) <| nl <| thn <| ?_
     exact ⟨i + 1, ⟨rfl, congrArg (Value.int .i64) (by omega), rfl, trivial⟩, ⟨hi', hK⟩, by omega⟩
 ·have : i = ls.length := by omega
  subst this
  refine ex <| the <| the <| bkh <| thn <| sq <| rg <| ?_
  refine vl (mI rfl) <| vl (aI rfl) <| nl <| thn <| rt <| p1r (a := .int _ _) rfl <| ?_
  exact ⟨rfl, hK⟩
theorem heldItemS_c (hK : K e w G L) (hv : ItS G v zs) (hm : zs = imk k zs.length) (h0 : 0 ≤ k) (h1 : k + 2 * zs.length ≤ 1000000000000000) :
  Ret prog 38 #[v, .int .i64 k] w (fun r w' => r = .int .i64 (k + 2 * zs.length) ∧ K e w' G L) := by
 have hle := hv.le
 refine enter1 (args := [v, .int .i64 k]) func38 rfl rfl rfl rfl ?_
 refine sq <| rg <| ?_
 refine vl (aI rfl) <| nl <| thn <| sq <| sq <| rg <| vl (aI rfl) <| nl <| thn <| bk <| ?_
 refine lp (σ := Nat) (fun i => [(0, v), (1, .int .i64 (k + 2 * (i : Int))), (5, .int .i64 (i : Int))]) (fun i w => i ≤ zs.length ∧ K e w G L) (fun i => zs.length - i) 0 ⟨rfl, (by show Value.int .i64 k = Value.int .i64 (k + 2 * ((0 : Nat) : Int)); simp), rfl, trivial⟩ ⟨Nat.zero_le _, hK⟩ ?_
 rintro i g w ⟨hi, hK⟩
 refine sq <| sq <| rg <| ?_
 refine vl (mI rfl) <| vl mv <| vl (ln underlying27 rfl hv.len) <| vl (lt rfl rfl) <| nl <| thn <| ?_
 refine cdP rfl (fun hc => ?_) fun hc => ?_
 ·have hi' : i < zs.length := by omega
  have hx : zs[i] = (k + 2 * (i : Int), k + 2 * (i : Int) + 1) := by
   have h2 : zs[i]? = (imk k zs.length)[i]? := by rw [← hm]
   rw [List.getElem?_eq_getElem hi', List.getElem?_eq_getElem (by rw [imk_len]; exact hi')] at h2
   rw [Option.some.inj h2, imk_get]
  have hx1 := congrArg (·.1) hx
  have hx2 := congrArg (·.2) hx
  simp only at hx1 hx2
  refine sk <| thn <| sq <| bk <| sq <| sq <| rg <| ?_
  refine vl mv <| vl (mI rfl) <| vl (ixn underlying27 Ty.s104 rfl hv.1 rfl om) <| vl (fe underlying104 rfl Ty.z3 rfl hv.1 om) <| vl (ldV hK Ty.o3 rfl (hv.cell om 0 rfl)) <| vl (mI rfl) <| vl (ne rfl rfl) <| nl <| thn <| ?_
  refine cdP rfl (fun hn1 => ?_) fun hn1 => ?_
  ·have _ := trivial
   omega
  ·refine sk <| thn <| sq <| rg <| ?_
   refine vl (mI rfl) <| vl (ad rfl rfl) <| vl (aI rfl) <| nl <| thn <| sq <| sq <| rg <| vl mv <| vl (mI rfl) <| vl (ixn underlying27 Ty.s104 rfl hv.1 rfl om) <| vl (fe underlying104 rfl Ty.z3 rfl hv.1 om) <| vl (ldV hK Ty.o3 rfl (hv.cell om 1 rfl)) <| vl (mI rfl) <| vl (ne rfl rfl) <| nl <| thn <| ?_
   refine cdP rfl (fun hn2 => ?_) fun hn2 => ?_
   ·have _ := trivial
    omega
   ·refine sk <| thn <| rg <| ?_
    refine vl (mI rfl) <| vl (ad rfl rfl) <| vl (aI rfl) <| nl <| bkn <| thn <| rg <| vl (mI rfl) <| vl (ad rfl rfl) <| vl (aI rfl) <| nl <| thn <| ?_
    exact ⟨i + 1, ⟨rfl, congrArg (Value.int .i64) (by omega), rfl, trivial⟩, ⟨hi', hK⟩, by omega⟩
 ·have : i = zs.length := by omega
  subst this
  refine ex <| the <| the <| bkh <| thn <| sq <| rg <| ?_
  refine vl (mI rfl) <| vl (aI rfl) <| nl <| thn <| rt <| p1r (a := .int _ _) rfl <| ?_
  exact ⟨rfl, hK⟩
theorem heldIntB_c (hK : K e w G L) (hv : IntS G v xs) (hm : xs = marks k xs.length) (h0 : 0 ≤ k) (h1 : k + xs.length ≤ 1000000000000000) :
  Ret prog 40 #[v, .int .i64 k] w (fun r w' => r = .int .i64 (k + xs.length) ∧ K e w' G L) := by
 refine enter1 (args := [v, .int .i64 k]) func40 rfl rfl rfl rfl ?_
 refine sq <| rg <| ?_
 refine vl (aI rfl) <| nl <| thn <| sq <| sq <| rg <| vl (aI rfl) <| nl <| thn <| bk <| ?_
 refine lp (σ := Nat) (fun i => [(0, v), (1, .int .i64 (k + (i : Int))), (5, .int .i64 (i : Int))]) (fun i w => i ≤ xs.length ∧ K e w G L) (fun i => xs.length - i) 0 ⟨rfl, (by show Value.int .i64 k = Value.int .i64 (k + ((0 : Nat) : Int)); simp), rfl, trivial⟩ ⟨Nat.zero_le _, hK⟩ ?_
 rintro i g w ⟨hi, hK⟩
 refine sq <| sq <| rg <| ?_
 refine vl (mI rfl) <| vl mv <| vl (ln underlying22 rfl hv.len) <| vl (lt rfl rfl) <| nl <| thn <| ?_
 refine cdP rfl (fun hc => ?_) fun hc => ?_
 ·have hi' : i < xs.length := by omega
  have hx : xs[i] = k + i := by
   have h2 : xs[i]? = (marks k xs.length)[i]? := by rw [← hm]
   rw [List.getElem?_eq_getElem hi', List.getElem?_eq_getElem (by rw [marks_len]; exact hi')] at h2
   rw [Option.some.inj h2, marks_get]
  refine sk <| thn <| sq <| bk <| sq <| sq <| rg <| ?_
  refine vl mv <| vl (mI rfl) <| vl (ixn1 underlying22 Ty.s3 rfl hv.1 rfl om) <| vl (ldV hK Ty.o3 rfl (hv.at om)) <| vl (mI rfl) <| vl (ne rfl rfl) <| nl <| thn <| ?_
  refine cdP rfl (fun hne => ?_) fun hne => ?_
  ·exact absurd hx hne
  ·have _ := trivial
   refine sk <| thn <| rg <| ?_
   refine vl (mI rfl) <| vl (ad rfl rfl) <| vl (aI rfl) <| nl <| bkn <| thn <| rg <| vl (mI rfl) <| vl (ad rfl rfl) <| vl (aI rfl) <| nl <| thn <| ?_
   exact ⟨i + 1, ⟨rfl, congrArg (Value.int .i64) (by omega), rfl, trivial⟩, ⟨hi', hK⟩, by omega⟩
 ·have : i = xs.length := by omega
  subst this
  refine ex <| the <| the <| bkh <| thn <| sq <| rg <| ?_
  refine vl (mI rfl) <| vl (aI rfl) <| nl <| thn <| rt <| p1r (a := .int _ _) rfl <| ?_
  exact ⟨rfl, hK⟩
theorem heldNodeS_c (hK : K e w G L) (hv : RngS G v rs) (hm : NMk k rs rs.length) (h0 : 0 ≤ k) (h1 : k + nsz rs ≤ 1000000000000000) :
  Ret prog 36 #[v, .int .i64 k] w (fun r w' => r = .int .i64 (k + nsz rs) ∧ K e w' G L) := by
 have hs := hv.sl
 have hle := hs.le
 refine enter1 (args := [v, .int .i64 k]) func36 rfl rfl rfl rfl ?_
 refine sq <| rg <| ?_
 refine vl (aI rfl) <| nl <| thn <| sq <| sq <| rg <| vl (aI rfl) <| nl <| thn <| bk <| ?_
 refine lp (σ := Nat) (fun i => [(0, v), (1, .int .i64 (k + (nsz (rs.take i) : Int))), (5, .int .i64 (i : Int))]) (fun i w => i ≤ rs.length ∧ K e w G L) (fun i => rs.length - i) 0 ⟨rfl, (by show Value.int .i64 k = Value.int .i64 (k + ((0 : Nat) : Int)); simp), rfl, trivial⟩ ⟨Nat.zero_le _, hK⟩ ?_
 rintro i g w ⟨hi, hK⟩
 refine sq <| sq <| rg <| ?_
 refine vl (mI rfl) <| vl mv <| vl (ln underlying25 rfl hs.len) <| vl (lt rfl rfl) <| nl <| thn <| ?_
 refine cdP rfl (fun hc => ?_) fun hc => ?_
 ·have hi' : i < rs.length := by omega
  have hn1 := nsz_succ (rs := rs) hi'
  have hn2 := nsz_le (rs := rs) (i := i + 1)
  have hmi := hm i hi' hi'
  obtain ⟨hx1, hx2, hx3⟩ := hmi
  rw [show k + (nsz (rs.take i) : Int) + 2 = k + (nsz (rs.take i) : Int) + 1 + 1 by omega] at hx3
  refine sk <| thn <| sq <| bk <| sq <| sq <| rg <| ?_
  refine vl mv <| vl (mI rfl) <| vl (ixn underlying25 Ty.s98 rfl hs.1 rfl om) <| vl (fe underlying98 rfl Ty.z3 rfl hs.1 om) <| vl (ldV hK Ty.o3 rfl (hs.cell om 0 rfl)) <| vl (mI rfl) <| vl (ne rfl rfl) <| nl <| thn <| ?_
  refine cdP rfl (fun hm1 => ?_) fun hm1 => ?_
  ·have _ := trivial
   omega
  ·refine sk <| thn <| sq <| rg <| ?_
   refine vl (mI rfl) <| vl (ad rfl rfl) <| vl (aI rfl) <| nl <| thn <| sq <| sq <| rg <| vl mv <| vl (mI rfl) <| vl (ixn underlying25 Ty.s98 rfl hs.1 rfl om) <| vl (fe underlying98 rfl Ty.z3 rfl hs.1 om) <| vl (ldV hK Ty.o3 rfl (hs.cell om 1 rfl)) <| vl (mI rfl) <| vl (ne rfl rfl) <| nl <| thn <| ?_
   refine cdP rfl (fun hm2 => ?_) fun hm2 => ?_
   ·have _ := trivial
    omega
   ·refine sk <| thn <| sq <| rg <| ?_
    refine vl (mI rfl) <| vl (ad rfl rfl) <| vl (aI rfl) <| nl <| thn <| sq <| rg <| vl mv <| vl (mI rfl) <| vl (ixn underlying25 Ty.s98 rfl hs.1 rfl om) <| vl (fe underlying98 rfl Ty.z22 rfl hs.1 om) <| vl (ldV hK Ty.o22 rfl (hs.cell om 2 rfl)) <| vl (mI rfl) <| ?_
    refine cl call40 rfl (heldIntB_c hK (hv.at hi') hx3 om om) ?_
    rintro _ w ⟨rfl, hK⟩
    refine vl (aI rfl) <| nl <| thn <| sq <| rg <| vl (mI rfl) <| vl (lt rfl rfl) <| nl <| thn <| ?_
    refine cdP rfl (fun hm3 => ?_) fun hm3 => ?_
    ·have _ := trivial
     omega
    ·refine sk <| bkn <| thn <| rg <| ?_
     refine vl (mI rfl) <| vl (ad rfl rfl) <| vl (aI rfl) <| nl <| thn <| ?_
     exact ⟨i + 1, ⟨rfl, congrArg (Value.int .i64) (by omega), rfl, trivial⟩, ⟨hi', hK⟩, by omega⟩
 ·have hi' : i = rs.length := by omega
  subst hi'
  refine ex <| the <| the <| bkh <| thn <| sq <| rg <| ?_
  refine vl (mI rfl) <| vl (aI rfl) <| nl <| thn <| rt <| p1r (a := .int _ _) rfl <| ?_
  exact ⟨congrArg (Value.int .i64) (by rw [List.take_length]), hK⟩
theorem markScanZ_c (hK : K e w G (A ++ L)) (ho : OZ 1 3 t ts.length (ints ts) A) (h0 : 0 ≤ k) (h1 : k + ts.length ≤ 1000000000000000) :
  Ret prog 35 #[.agg #[.int .i64 n, t], .int .i64 k] w (fun r w' => r = .int .i64 (k + ts.length) ∧ ∃ A', OZ 1 3 t ts.length (ints (marks k ts.length)) A' ∧ K e w' G (A' ++ L)) := by
 refine enter1 (args := [.agg #[.int .i64 n, t], .int .i64 k]) func35 rfl rfl rfl rfl ?_
 refine sq <| rg <| ?_
 refine bx hK rfl rfl ?_
 intro b2 w hK
 refine vl (aI rfl) <| nl <| thn <| sq <| rg <| vl (fa underlying29 rfl Ty.z22 rfl) <| vl (ldO hK Ty.o22 0 rfl rfl rfl) <| vl (mI rfl) <| ?_
 refine cl call13 rfl (markIntZ_c (K.mid1 hK) ho h0 h1) ?_
 rintro _ w ⟨rfl, A', ho', hK⟩
 refine vl (aI rfl) <| nl <| thn <| sq <| rg <| vl (mI rfl) <| vl (aI rfl) <| nl <| thn <| rt <| p1r (a := .int _ _) rfl <| ?_
 exact ⟨rfl, A', ho', (K.back1 hK).drop1⟩
theorem heldScanB_c (hK : K e w G L) (hv : IntS G t ts) (hm : ts = marks k ts.length) (h0 : 0 ≤ k) (h1 : k + ts.length ≤ 1000000000000000) :
  Ret prog 39 #[.agg #[.int .i64 n, t], .int .i64 k] w (fun r w' => r = .int .i64 (k + ts.length) ∧ K e w' G L) := by
 refine enter1 (args := [.agg #[.int .i64 n, t], .int .i64 k]) func39 rfl rfl rfl rfl ?_
 refine sq <| rg <| ?_
 refine bx hK rfl rfl ?_
 intro b2 w hK
 refine vl (aI rfl) <| nl <| thn <| sq <| rg <| vl (fa underlying29 rfl Ty.z22 rfl) <| vl (ldO hK Ty.o22 0 rfl rfl rfl) <| vl (mI rfl) <| ?_
 refine cl call40 rfl (heldIntB_c hK hv hm h0 h1) ?_
 rintro _ w ⟨rfl, hK⟩
 refine vl (aI rfl) <| nl <| thn <| sq <| sq <| rg <| vl (mI rfl) <| vl (lt rfl rfl) <| nl <| thn <| ?_
 refine cdP rfl (fun h => ?_) fun h => ?_
 ·exfalso; omega
 ·have _ := trivial
  refine sk <| thn <| sq <| rg <| ?_
  refine vl (mI rfl) <| vl (aI rfl) <| nl <| thn <| rt <| p1r (a := .int _ _) rfl <| ?_
  exact ⟨rfl, hK.drop1⟩
set_option maxHeartbeats 1000000 in
theorem markWorld_c (hK : K e w G (AR ++ (flat (uso os) ++ (AL ++ (AI ++ (AT ++ (AS ++ L))))))) (h : WdT lc 98 101 104 3 W wd os AR AL AI AT AS) (h0 : 0 ≤ k) (h1 : k + wsz wd (toRs os) ≤ 1000000000000000) :
  Ret prog 15 #[.agg (wc W).toArray, .int .i64 k] w (fun r w' => r = .int .i64 (k + wsz wd (toRs os)) ∧ ∃ wd' os' AR' AL' AI' AT' AS', WdT lc 98 101 104 3 W wd' os' AR' AL' AI' AT' AS' ∧ (W.now = wd'.now ∧ rgl (toRs os') = wd'.ring ∧ W.next = wd'.scan.1) ∧ WMk k wd' (toRs os') ∧ wsz wd' (toRs os') = wsz wd (toRs os) ∧ K e w' G (AR' ++ (flat (uso os') ++ (AL' ++ (AI' ++ (AT' ++ (AS' ++ L))))))) := by
 unfold wsz at h1 ⊢
 refine enter1 (args := [.agg (wc W).toArray, .int .i64 k]) func15 rfl rfl rfl rfl ?_
 refine sq <| rg <| ?_
 refine bx hK rfl rfl ?_
 intro b2 w hK
 refine vl (aI rfl) <| nl <| thn <| sq <| rg <| vl (fa underlying31 rfl Ty.z25 rfl) <| vl (ldO hK Ty.o25 0 rfl rfl rfl) <| vl (mI rfl) <| ?_
 replace hK : K _ _ _ (AR ++ (flat (uso os) ++ ((b2, row (wc W) 31) :: (AL ++ (AI ++ (AT ++ (AS ++ L))))))) := hK.reo
 refine cl call32 rfl (markNodeZ_c hK h.ring h.inn h0 om) ?_
 rintro _ w ⟨rfl, os', AR', hol, hns, hmk, hor, hoz, hK⟩
 replace hK : K _ _ _ ((b2, row (wc W) 31) :: (AL ++ (AR' ++ (flat (uso os') ++ (AI ++ (AT ++ (AS ++ L))))))) := hK.reo
 refine vl (aI rfl) <| nl <| thn <| sq <| rg <| vl (fa underlying31 rfl Ty.z26 rfl) <| vl (ldO hK Ty.o26 0 rfl rfl rfl) <| vl (mI rfl) <| ?_
 refine cl call33 rfl (markLeaseZ_c (K.mid1 hK) h.leases om om) ?_
 rintro _ w ⟨rfl, AL', hol2, hK⟩
 replace hK : K _ _ _ ((b2, row (wc W) 31) :: (AI ++ (AR' ++ (flat (uso os') ++ (AL' ++ (AT ++ (AS ++ L))))))) := hK.reo
 refine vl (aI rfl) <| nl <| thn <| sq <| rg <| vl (fa underlying31 rfl Ty.z27 rfl) <| vl (ldO hK Ty.o27 0 rfl rfl rfl) <| vl (mI rfl) <| ?_
 refine cl call34 rfl (markItemZ_c (K.mid1 hK) h.items om om) ?_
 rintro _ w ⟨rfl, AI', hoi, hK⟩
 replace hK : K _ _ _ ((b2, row (wc W) 31) :: (AT ++ (AR' ++ (flat (uso os') ++ (AL' ++ (AI' ++ (AS ++ L))))))) := hK.reo
 refine vl (aI rfl) <| nl <| thn <| sq <| rg <| vl (fa underlying31 rfl Ty.z29 rfl) <| vl (lsP (u := [.int .i64 W.next, W.t]) hK Ty.a29 Ty.s29 0 rfl rfl rfl rfl) <| vl (mI rfl) <| ?_
 refine cl call35 rfl (markScanZ_c (K.mid1 hK) h.told om om) ?_
 rintro _ w ⟨rfl, AT', hot, hK⟩
 replace hK : K _ _ _ ((b2, row (wc W) 31) :: (AS ++ (AR' ++ (flat (uso os') ++ (AL' ++ (AI' ++ (AT' ++ L))))))) := hK.reo
 refine vl (aI rfl) <| nl <| thn <| sq <| rg <| vl (fa underlying31 rfl Ty.z22 rfl) <| vl (ldO hK Ty.o22 0 rfl rfl rfl) <| vl (mI rfl) <| ?_
 refine cl call13 rfl (markIntZ_c (K.mid1 hK) h.since om om) ?_
 rintro _ w ⟨rfl, AS', hos, hK⟩
 replace hK : K _ _ _ ((b2, row (wc W) 31) :: (AR' ++ (flat (uso os') ++ (AL' ++ (AI' ++ (AT' ++ (AS' ++ L))))))) := hK.reo
 refine vl (aI rfl) <| nl <| thn <| sq <| rg <| vl (mI rfl) <| vl (aI rfl) <| nl <| thn <| rt <| p1r (a := .int _ _) rfl <| ?_
 refine ⟨congrArg (Value.int .i64) (by omega), ⟨W.now, rgl (toRs os'), lmk (k + nsz (toRs os)) wd.leases.length, imk (k + nsz (toRs os) + 3 * wd.leases.length) wd.items.length, (W.next, marks (k + nsz (toRs os) + 3 * wd.leases.length + 2 * wd.items.length) wd.scan.2.length), marks (k + nsz (toRs os) + 3 * wd.leases.length + 2 * wd.items.length + wd.scan.2.length) wd.since.length⟩, os', AR', AL', AI', AT', AS', ⟨hor, hoz, ?_, ?_, ?_, ?_⟩, ⟨rfl, rfl, rfl⟩, ⟨?_, ?_, ?_, ?_, ?_⟩, ?_, hK.drop1⟩
 ·simp only [lmk_len]; exact hol2
 ·simp only [imk_len]; exact hoi
 ·simp only [marks_len]; exact hot
 ·simp only [marks_len]; exact hos
 ·rw [toRs_len]; exact hmk
 ·simp only [lmk_len, hns]
 ·simp only [lmk_len, imk_len, hns]
 ·simp only [lmk_len, imk_len, marks_len, hns]
 ·simp only [lmk_len, imk_len, marks_len, hns]
 ·simp only [lmk_len, imk_len, marks_len, hns]
set_option maxHeartbeats 1000000 in
theorem heldWorld_c (hK : K e w G L) (hW : WdS G lc W wd rs) (hm : WMk k wd rs) (h0 : 0 ≤ k) (h1 : k + wsz wd rs ≤ 1000000000000000) :
  Ret prog 16 #[.agg (wc W).toArray, .int .i64 k] w (fun r w' => r = .int .i64 (k + wsz wd rs) ∧ K e w' G L) := by
 unfold wsz at h1 ⊢
 refine enter1 (args := [.agg (wc W).toArray, .int .i64 k]) func16 rfl rfl rfl rfl ?_
 refine sq <| rg <| ?_
 refine bx hK rfl rfl ?_
 intro b2 w hK
 refine vl (aI rfl) <| nl <| thn <| sq <| rg <| vl (fa underlying31 rfl Ty.z25 rfl) <| vl (ldO hK Ty.o25 0 rfl rfl rfl) <| vl (mI rfl) <| ?_
 refine cl call36 rfl (heldNodeS_c hK hW.ring hm.ring h0 om) ?_
 rintro _ w ⟨rfl, hK⟩
 refine vl (aI rfl) <| nl <| thn <| sq <| sq <| rg <| vl (mI rfl) <| vl (lt rfl rfl) <| nl <| thn <| ?_
 refine cdP rfl (fun e1 => ?_) fun e1 => ?_
 ·have _ := trivial
  omega
 ·refine sk <| thn <| sq <| rg <| ?_
  refine vl (fa underlying31 rfl Ty.z26 rfl) <| vl (ldO hK Ty.o26 0 rfl rfl rfl) <| vl (mI rfl) <| ?_
  refine cl call37 rfl (heldLeaseS_c hK hW.leases hm.leases om om) ?_
  rintro _ w ⟨rfl, hK⟩
  refine vl (aI rfl) <| nl <| thn <| sq <| sq <| rg <| vl (mI rfl) <| vl (lt rfl rfl) <| nl <| thn <| ?_
  refine cdP rfl (fun e2 => ?_) fun e2 => ?_
  ·have _ := trivial
   omega
  ·refine sk <| thn <| sq <| rg <| ?_
   refine vl (fa underlying31 rfl Ty.z27 rfl) <| vl (ldO hK Ty.o27 0 rfl rfl rfl) <| vl (mI rfl) <| ?_
   refine cl call38 rfl (heldItemS_c hK hW.items hm.items om om) ?_
   rintro _ w ⟨rfl, hK⟩
   refine vl (aI rfl) <| nl <| thn <| sq <| sq <| rg <| vl (mI rfl) <| vl (lt rfl rfl) <| nl <| thn <| ?_
   refine cdP rfl (fun e3 => ?_) fun e3 => ?_
   ·have _ := trivial
    omega
   ·refine sk <| thn <| sq <| rg <| ?_
    refine vl (fa underlying31 rfl Ty.z29 rfl) <| vl (lsP (u := [.int .i64 W.next, W.t]) hK Ty.a29 Ty.s29 0 rfl rfl rfl rfl) <| vl (mI rfl) <| ?_
    refine cl call39 rfl (heldScanB_c hK hW.told hm.told om om) ?_
    rintro _ w ⟨rfl, hK⟩
    refine vl (aI rfl) <| nl <| thn <| sq <| sq <| rg <| vl (mI rfl) <| vl (lt rfl rfl) <| nl <| thn <| ?_
    refine cdP rfl (fun e4 => ?_) fun e4 => ?_
    ·have _ := trivial
     omega
    ·refine sk <| thn <| sq <| rg <| ?_
     refine vl (fa underlying31 rfl Ty.z22 rfl) <| vl (ldO hK Ty.o22 0 rfl rfl rfl) <| vl (mI rfl) <| ?_
     refine cl call40 rfl (heldIntB_c hK hW.since hm.since om om) ?_
     rintro _ w ⟨rfl, hK⟩
     refine vl (aI rfl) <| nl <| thn <| sq <| sq <| rg <| vl (mI rfl) <| vl (lt rfl rfl) <| nl <| thn <| ?_
     refine cdP rfl (fun e5 => ?_) fun e5 => ?_
     ·have _ := trivial
      omega
     ·refine sk <| thn <| sq <| rg <| ?_
      refine vl (mI rfl) <| vl (aI rfl) <| nl <| thn <| rt <| p1r (a := .int _ _) rfl <| ?_
      exact ⟨congrArg (Value.int .i64) (by omega), hK.drop1⟩
theorem heldWorld_o (hK : K e w G (AR ++ (flat (uso os) ++ (AL ++ (AI ++ (AT ++ (AS ++ L))))))) (h : WdT lc 98 101 104 3 W wd os AR AL AI AT AS) (hg : W.now = wd.now ∧ rgl (toRs os) = wd.ring ∧ W.next = wd.scan.1) (hm : WMk k wd (toRs os)) (h0 : 0 ≤ k) (h1 : k + wsz wd (toRs os) ≤ 1000000000000000) :
  Ret prog 16 #[.agg (wc W).toArray, .int .i64 k] w (fun r w' => r = .int .i64 (k + wsz wd (toRs os)) ∧ K e w' G (AR ++ (flat (uso os) ++ (AL ++ (AI ++ (AT ++ (AS ++ L))))))) := by
 have hK' : K e w G ((AR ++ (flat (uso os) ++ (AL ++ (AI ++ (AT ++ AS))))) ++ L) := by simpa only [List.append_assoc] using hK
 have c := Ret.own (R := fun r => r = .int .i64 (k + wsz wd (toRs os))) hK' fun hK2 => heldWorld_c hK2 (h.wds (fun _ => rfl) hK' hg.1 hg.2.1 hg.2.2) hm h0 h1
 simpa only [List.append_assoc] using c
theorem eqWorld_o {W' : Wv} {wd' : Wd} (hK : K e w G (AR ++ (flat (uso os) ++ (AL ++ (AI ++ (AT ++ (AS ++ L))))))) (h : WdT lc 98 101 104 3 W wd os AR AL AI AT AS) (hg : W.now = wd.now ∧ rgl (toRs os) = wd.ring ∧ W.next = wd.scan.1) (hW' : WdS G lc W' wd' qs) :
  Ret prog 10 #[.agg (wc W).toArray, .agg (wc W').toArray] w (fun r w' => r = .bool (dec (wd = wd')) ∧ K e w' G (AR ++ (flat (uso os) ++ (AL ++ (AI ++ (AT ++ (AS ++ L))))))) := by
 have hK' : K e w G ((AR ++ (flat (uso os) ++ (AL ++ (AI ++ (AT ++ AS))))) ++ L) := by simpa only [List.append_assoc] using hK
 have c := Ret.own (R := fun r => r = .bool (dec (wd = wd'))) hK' fun hK2 => eqWorld_c hK2 (h.wds (fun _ => rfl) hK' hg.1 hg.2.1 hg.2.2) (hW'.mono hK'.addV_le)
 simpa only [List.append_assoc] using c
end
end Go.Proofs.YtmgggljicpmndaaGreatDoor
