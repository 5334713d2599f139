/- Contracts of the functions on worlds: what is valid, who owns a key. Binary searches. Conditions: those that each row states. -/
import Derived.Test.YtmgggljicpmndaaGreatDoorRq
import Derived.Test.YtmgggljicpmndaaGreatDoorWdN
import Derived.Test.YtmgggljicpmndaaGreatDoorBsl
namespace Go.Proofs.YtmgggljicpmndaaGreatDoor
open Go Go.Ro Tryz
section
variable {e w : World} {G : View} {L A : Own} {v u : Value} {xs ys : List Int} {ls : List Ls} {rs : List Rn} {zs : List It} {W : Wv} {wd : Wd} {a b k id other : Int} {i j : Nat}
theorem l51Keys_c (hK : K e w G L) (hv : ItS G v zs) (hl : zs.length ≤ 1048576) : Ret prog 58 #[v] w (fun r w' => ∃ A, OS 1 3 r (keys zs).length (ints (keys zs)) A ∧ K e w' G (A ++ L)) := by
 refine enter1 (args := [v]) func58 rfl rfl rfl rfl ?_
 refine sq <| rg <| ?_
 refine vl asg <| nl <| thn <| sq <| rg <| ?_
 refine bs0 hK underlying22 Ty.i3 ?_
 intro b5 w hK
 refine vl asg <| nl <| thn <| sq <| sq <| rg <| vl (aI rfl) <| nl <| thn <| bk <| ?_
 refine lp (σ := Nat × Value × Own) (fun s => [(0, v), (3, s.2.1), (4, .int .i64 (s.1 : Int))]) (fun s w => s.1 ≤ zs.length ∧ OS 1 3 s.2.1 (keys (zs.take s.1)).length (ints (keys (zs.take s.1))) s.2.2 ∧ K e w G (s.2.2 ++ L)) (fun s => zs.length - s.1) (0, .slice (some ⟨b5, 0, none⟩) 0 0, [(b5, row [] 3)]) ⟨rfl, rfl, rfl, trivial⟩ ⟨Nat.zero_le _, OS.none, hK⟩ ?_
 rintro ⟨i, u, A⟩ g w ⟨hi, ho, hK⟩
 simp only at hi ho hK
 refine sq <| sq <| rg <| ?_
 refine vl (mI rfl) <| vl mv <| vl (ln underlying27 rfl hv.len) <| vl (lt rfl rfl) <| nl <| thn <| ?_
 refine cdP rfl (fun hc => ?_) fun hc => ?_
 ·have hi' : i < zs.length := by simp only at hc; omega
  refine sk <| thn <| sq <| bk <| rg <| ?_
  refine vl mv <| vl mv <| vl (mI rfl) <| vl (ixn underlying27 Ty.s104 rfl hv.1 rfl om) <| vl (fe underlying104 rfl Ty.z3 rfl hv.1 om) <| vl (ldV hK Ty.o3 rfl (hv.cell om 0 rfl)) <| ?_
  refine bsN [.tmp 17] hK underlying22 Ty.i3 rfl rfl rfl rfl rfl rfl rfl rfl ?_
  intro b18 w hK
  refine apI1 (k := zs[i].1) hK underlying22 Ty.i3 rfl rfl ho rfl (by rw [keys_len]; simp; omega) fun v' A' w ho hK => ?_
  refine vl asg <| nl <| bkn <| thn <| rg <| vl (mI rfl) <| vl (ad rfl rfl) <| vl (aI rfl) <| nl <| thn <| ?_
  exact ⟨(i + 1, v', A'), ⟨rfl, rfl, rfl, trivial⟩, ⟨hi', by rw [List.take_succ_eq_append_getElem hi', keys_snoc]; exact ho, hK⟩, by simp only; omega⟩
 ·have hi' : i = zs.length := by simp only at hc; omega
  subst hi'
  refine ex <| the <| the <| bkh <| thn <| sq <| rg <| ?_
  refine vl mv <| vl asg <| nl <| thn <| rt <| p1r (a := _) rfl <| ?_
  rw [List.take_length] at ho
  exact ⟨A, ho, hK⟩
theorem keysOf_c (hK : K e w G L) (hv : ItS G v zs) (hl : zs.length ≤ 1048576) : Ret prog 81 #[v] w (fun r w' => ∃ A, OS 1 3 r (keys zs).length (ints (keys zs)) A ∧ K e w' G (A ++ L)) := by
 refine enter1 (args := [v]) func81 rfl rfl rfl rfl ?_
 refine sq <| rg <| ?_
 refine vl asg <| nl <| thn <| sq <| rg <| vl asg <| nl <| thn <| sq <| sq <| rg <| vl mv <| vl (ln underlying27 rfl hv.len) <| vl (mI rfl) <| nl <| thn <| ?_
 refine bk <| ?_
 refine lp (σ := Nat × Value × Own) (fun s => [(3, s.2.1), (6, v), (7, .int .i64 (zs.length : Int)), (8, .int .i64 (s.1 : Int))]) (fun s w => s.1 ≤ zs.length ∧ OS 1 3 s.2.1 (keys (zs.take s.1)).length (ints (keys (zs.take s.1))) s.2.2 ∧ K e w G (s.2.2 ++ L)) (fun s => zs.length - s.1) (0, .slice none 0 0, []) ⟨rfl, rfl, rfl, rfl, trivial⟩ ⟨Nat.zero_le _, OS.nil _ _, hK⟩ ?_
 rintro ⟨i, u, A⟩ g w ⟨hi, ho, hK⟩
 simp only at hi ho hK
 refine sq <| rg <| ?_
 refine vl (lt rfl rfl) <| nl <| thn <| sq <| ?_
 refine cdP rfl (fun hc => ?_) fun hc => ?_
 ·have hi' : i < zs.length := by simp only at hc; omega
  refine sk <| thn <| sq <| bk <| sq <| rg <| ?_
  refine vl (ixn underlying27 Ty.s104 rfl hv.1 rfl om) <| vl (lsF hK Ty.a104 Ty.s104 rfl hv om) <| ?_
  refine al hK Ty.i104 rfl ?_
  intro b5 w hK
  refine soS hK Ty.i104 0 rfl rfl rfl rfl rfl rfl ?_
  intro w hK
  refine nl <| thn <| rg <| vl mv <| vl (fa underlying104 rfl Ty.z3 rfl) <| vl (ldO hK Ty.o3 0 rfl rfl rfl) <| ?_
  refine bsN [.tmp 14] hK underlying22 Ty.i3 rfl rfl rfl rfl rfl rfl rfl rfl ?_
  intro b15 w hK
  replace hK := K.midc (A := [_]) hK
  refine apI1 (k := zs[i].1) hK underlying22 Ty.i3 rfl rfl ho rfl (by rw [keys_len]; simp; omega) fun v' A' w ho hK => ?_
  replace hK := K.mid (B := [_]) hK
  refine vl asg <| nl <| bkn <| thn <| rg <| vl (ad rfl rfl) <| vl (mI rfl) <| nl <| thn <| ?_
  exact ⟨(i + 1, v', A'), ⟨rfl, rfl, rfl, rfl, trivial⟩, ⟨hi', by rw [List.take_succ_eq_append_getElem hi', keys_snoc]; exact ho, hK.mid1.drop1⟩, by simp only; omega⟩
 ·have hi' : i = zs.length := by simp only at hc; omega
  subst hi'
  refine ex <| the <| the <| bkh <| thn <| sq <| rg <| ?_
  refine vl mv <| vl asg <| nl <| thn <| rt <| p1r (a := _) rfl <| ?_
  rw [List.take_length] at ho
  exact ⟨A, ho, hK⟩
end
open Go Go.Ro Tryz
section
variable {e w : World} {G : View} {L A : Own} {v u : Value} {ls : List Ls} {rs : List Rn} {zs : List It} {k : Int}
theorem bsearchI_c {F : FuncId} {cap : List Value} {key : It → Int} (hf : ∀ args w, (callFunc F args).run prog w = .ok (.enter F args) w) (hK : K e w G L) (hv : ItS G v zs) (hl : zs.length ≤ 1000000) (hs : zs.Pairwise (fun a b => key a < key b))
  (hp : ∀ x ∈ zs, ∀ w, K e w G L → Ret prog F ([Value.agg (ic x).toArray, .int .i64 k] ++ cap).toArray w (fun r w' => (∃ m, r = .int .i64 m ∧ (m < 0 ↔ key x < k) ∧ (m = 0 ↔ key x = k)) ∧ K e w' G L)) :
  Ret prog 195 #[v, .int .i64 k, .func (.func F) #[] cap.toArray] w (fun r w' => (∃ (i : Nat) (b : Bool), r = .tuple #[.int .i64 (i : Int), .bool b] ∧ BsR key zs k i b) ∧ K e w' G L) := by
 refine enter2 (args := [v, .int .i64 k, .func (.func F) #[] cap.toArray]) func195 rfl rfl rfl rfl ?_
 refine sq <| rg <| ?_
 refine vl (aI rfl) <| vl (aB rfl) <| nl <| thn <| sq <| rg <| vl mv <| vl (ln underlying27 rfl hv.len) <| vl (aI rfl) <| nl <| thn <| sq <| rg <| vl (mI rfl) <| vl (aI rfl) <| vl (aI rfl) <| nl <| thn <| ?_
 refine sq <| bk <| ?_
 refine lp (σ := Nat × Nat) (fun s => [(0, v), (1, .int .i64 k), (2, .func (.func F) #[] cap.toArray), (8, .int .i64 (zs.length : Int)), (9, .int .i64 (s.1 : Int)), (10, .int .i64 (s.2 : Int))]) (fun s w => s.1 ≤ s.2 ∧ s.2 ≤ zs.length ∧ (∀ x ∈ zs.take s.1, key x < k) ∧ (∀ x ∈ zs.drop s.2, k ≤ key x) ∧ K e w G L) (fun s => s.2 - s.1) (0, zs.length) ⟨rfl, rfl, rfl, rfl, rfl, rfl, trivial⟩ ⟨Nat.zero_le _, Nat.le_refl _, by simp, by simp, hK⟩ ?_
 rintro ⟨i, j⟩ g w ⟨hij, hj, ha, hb, hK⟩
 simp only at hij hj ha hb hK
 refine sq <| sq <| rg <| ?_
 refine vl (mI rfl) <| vl (mI rfl) <| vl (lt rfl rfl) <| nl <| thn <| ?_
 refine cdP rfl (fun hc => ?_) fun hc => ?_
 ·have hij' : i < j := by simp only at hc; omega
  have hh : (i + j) / 2 < zs.length := by omega
  refine sk <| thn <| bk <| sq <| rg <| ?_
  refine vl (mI rfl) <| vl (mI rfl) <| vl (ad rfl rfl) <| vl (cvU underlying3 underlying181 rfl om om) <| vl (shrN (m := i + j) rfl rfl om) <| vl (cv underlying181 underlying3 rfl om om) <| vl (aI rfl) <| nl <| thn <| sq <| rg <| vl mv <| vl mv <| vl (mI rfl) <| vl (ixn underlying27 Ty.s104 rfl hv.1 rfl om) <| vl (lsF hK Ty.a104 Ty.s104 rfl hv om) <| vl (mI rfl) <| ?_
  refine cf (cap := cap) (hf) rfl rfl (hp zs[(i + j) / 2] (List.getElem_mem hh) w hK) ?_
  rintro _ w ⟨⟨m, rfl, hm1, hm2⟩, hK⟩
  refine vl (lt rfl rfl) <| nl <| thn <| ?_
  refine cdP rfl (fun hq => ?_) fun hq => ?_
  ·have hq' := hm1.1 hq
   refine rg <| ?_
   refine vl (mI rfl) <| vl (ad rfl rfl) <| vl (aI rfl) <| nl <| bkn <| thn <| ?_
   refine ⟨((i + j) / 2 + 1, j), ⟨rfl, rfl, rfl, rfl, rfl, rfl, trivial⟩, ⟨by simp only; omega, hj, ?_, hb, hK⟩, by simp only; omega⟩
   exact bs_lo hs hh hq'
  ·have hq' : k ≤ key zs[(i + j) / 2] := by have := mt hm1.2 hq; omega
   refine rg <| ?_
   refine vl (mI rfl) <| vl (aI rfl) <| nl <| bkn <| thn <| ?_
   refine ⟨(i, (i + j) / 2), ⟨rfl, rfl, rfl, rfl, rfl, rfl, trivial⟩, ⟨by simp only; omega, by simp only; omega, ha, ?_, hK⟩, by simp only; omega⟩
   exact bs_hi hs hh hq'
 ·have hij' : i = j := by simp only at hc; omega
  subst hij'
  refine ex <| the <| the <| bkh <| thn <| sq <| rg <| ?_
  refine vl (mI rfl) <| vl (mI rfl) <| vl (mI rfl) <| vl (lt rfl rfl) <| vl (mB rfl) <| ?_
  refine splP (t := 39) rfl (fun hlt => ?_) fun hlt => ?_
  ·have hi' : i < zs.length := by omega
   refine gy rfl <| vl mv <| gy rfl <| vl mv <| gy rfl <| vl (mI rfl) <| gy rfl <| vl (ixn underlying27 Ty.s104 rfl hv.1 rfl om) <| gy rfl <| vl (lsF hK Ty.a104 Ty.s104 rfl hv om) <| gy rfl <| vl (mI rfl) <| gy rfl <| ?_
   refine cf (cap := cap) (hf) rfl rfl (hp zs[i] (List.getElem_mem hi') w hK) ?_
   rintro _ w ⟨⟨m, rfl, hm1, hm2⟩, hK⟩
   refine gy rfl <| vl (eq rfl rfl) <| vl (pk rfl) <| vl (aI rfl) <| vl (aB rfl) <| nl <| thn <| rt <| p2r (a := .int _ _) (b := .bool _) rfl rfl <| ?_
   exact ⟨⟨i, _, rfl, by omega, ha, fun h => hb _ (bs_mem h), by rw [decide_eq_true_iff, hm2]; exact ⟨fun h => ⟨hi', h⟩, fun ⟨_, h⟩ => h⟩⟩, hK⟩
  ·refine gn rfl <| gn rfl <| gn rfl <| gn rfl <| gn rfl <| gn rfl <| gn rfl <| gn rfl <| vl (pk rfl) <| vl (aI rfl) <| vl (aB rfl) <| nl <| thn <| rt <| p2r (a := .int _ _) (b := .bool _) rfl rfl <| ?_
   exact ⟨⟨i, false, rfl, by omega, ha, fun h => hb _ (bs_mem h), by simp; omega⟩, hK⟩
theorem bsearchL_c {F : FuncId} {cap : List Value} {key : Ls → Int} (hf : ∀ args w, (callFunc F args).run prog w = .ok (.enter F args) w) (hK : K e w G L) (hv : LeaS G v ls) (hl : ls.length ≤ 1000000) (hs : ls.Pairwise (fun a b => key a < key b))
  (hp : ∀ x ∈ ls, ∀ w, K e w G L → Ret prog F ([Value.agg (lc x).toArray, .int .i64 k] ++ cap).toArray w (fun r w' => (∃ m, r = .int .i64 m ∧ (m < 0 ↔ key x < k) ∧ (m = 0 ↔ key x = k)) ∧ K e w' G L)) :
  Ret prog 191 #[v, .int .i64 k, .func (.func F) #[] cap.toArray] w (fun r w' => (∃ (i : Nat) (b : Bool), r = .tuple #[.int .i64 (i : Int), .bool b] ∧ BsR key ls k i b) ∧ K e w' G L) := by
 refine enter2 (args := [v, .int .i64 k, .func (.func F) #[] cap.toArray]) func191 rfl rfl rfl rfl ?_
 refine sq <| rg <| ?_
 refine vl (aI rfl) <| vl (aB rfl) <| nl <| thn <| sq <| rg <| vl mv <| vl (ln underlying26 rfl hv.len) <| vl (aI rfl) <| nl <| thn <| sq <| rg <| vl (mI rfl) <| vl (aI rfl) <| vl (aI rfl) <| nl <| thn <| ?_
 refine sq <| bk <| ?_
 refine lp (σ := Nat × Nat) (fun s => [(0, v), (1, .int .i64 k), (2, .func (.func F) #[] cap.toArray), (8, .int .i64 (ls.length : Int)), (9, .int .i64 (s.1 : Int)), (10, .int .i64 (s.2 : Int))]) (fun s w => s.1 ≤ s.2 ∧ s.2 ≤ ls.length ∧ (∀ x ∈ ls.take s.1, key x < k) ∧ (∀ x ∈ ls.drop s.2, k ≤ key x) ∧ K e w G L) (fun s => s.2 - s.1) (0, ls.length) ⟨rfl, rfl, rfl, rfl, rfl, rfl, trivial⟩ ⟨Nat.zero_le _, Nat.le_refl _, by simp, by simp, hK⟩ ?_
 rintro ⟨i, j⟩ g w ⟨hij, hj, ha, hb, hK⟩
 simp only at hij hj ha hb hK
 refine sq <| sq <| rg <| ?_
 refine vl (mI rfl) <| vl (mI rfl) <| vl (lt rfl rfl) <| nl <| thn <| ?_
 refine cdP rfl (fun hc => ?_) fun hc => ?_
 ·have hij' : i < j := by simp only at hc; omega
  have hh : (i + j) / 2 < ls.length := by omega
  refine sk <| thn <| bk <| sq <| rg <| ?_
  refine vl (mI rfl) <| vl (mI rfl) <| vl (ad rfl rfl) <| vl (cvU underlying3 underlying181 rfl om om) <| vl (shrN (m := i + j) rfl rfl om) <| vl (cv underlying181 underlying3 rfl om om) <| vl (aI rfl) <| nl <| thn <| sq <| rg <| vl mv <| vl mv <| vl (mI rfl) <| vl (ixn underlying26 Ty.s101 rfl hv.1 rfl om) <| vl (lsF hK Ty.a101 Ty.s101 rfl hv om) <| vl (mI rfl) <| ?_
  refine cf (cap := cap) (hf) rfl rfl (hp ls[(i + j) / 2] (List.getElem_mem hh) w hK) ?_
  rintro _ w ⟨⟨m, rfl, hm1, hm2⟩, hK⟩
  refine vl (lt rfl rfl) <| nl <| thn <| ?_
  refine cdP rfl (fun hq => ?_) fun hq => ?_
  ·have hq' := hm1.1 hq
   refine rg <| ?_
   refine vl (mI rfl) <| vl (ad rfl rfl) <| vl (aI rfl) <| nl <| bkn <| thn <| ?_
   refine ⟨((i + j) / 2 + 1, j), ⟨rfl, rfl, rfl, rfl, rfl, rfl, trivial⟩, ⟨by simp only; omega, hj, ?_, hb, hK⟩, by simp only; omega⟩
   exact bs_lo hs hh hq'
  ·have hq' : k ≤ key ls[(i + j) / 2] := by have := mt hm1.2 hq; omega
   refine rg <| ?_
   refine vl (mI rfl) <| vl (aI rfl) <| nl <| bkn <| thn <| ?_
   refine ⟨(i, (i + j) / 2), ⟨rfl, rfl, rfl, rfl, rfl, rfl, trivial⟩, ⟨by simp only; omega, by simp only; omega, ha, ?_, hK⟩, by simp only; omega⟩
   exact bs_hi hs hh hq'
 ·have hij' : i = j := by simp only at hc; omega
  subst hij'
  refine ex <| the <| the <| bkh <| thn <| sq <| rg <| ?_
  refine vl (mI rfl) <| vl (mI rfl) <| vl (mI rfl) <| vl (lt rfl rfl) <| vl (mB rfl) <| ?_
  refine splP (t := 39) rfl (fun hlt => ?_) fun hlt => ?_
  ·have hi' : i < ls.length := by omega
   refine gy rfl <| vl mv <| gy rfl <| vl mv <| gy rfl <| vl (mI rfl) <| gy rfl <| vl (ixn underlying26 Ty.s101 rfl hv.1 rfl om) <| gy rfl <| vl (lsF hK Ty.a101 Ty.s101 rfl hv om) <| gy rfl <| vl (mI rfl) <| gy rfl <| ?_
   refine cf (cap := cap) (hf) rfl rfl (hp ls[i] (List.getElem_mem hi') w hK) ?_
   rintro _ w ⟨⟨m, rfl, hm1, hm2⟩, hK⟩
   refine gy rfl <| vl (eq rfl rfl) <| vl (pk rfl) <| vl (aI rfl) <| vl (aB rfl) <| nl <| thn <| rt <| p2r (a := .int _ _) (b := .bool _) rfl rfl <| ?_
   exact ⟨⟨i, _, rfl, by omega, ha, fun h => hb _ (bs_mem h), by rw [decide_eq_true_iff, hm2]; exact ⟨fun h => ⟨hi', h⟩, fun ⟨_, h⟩ => h⟩⟩, hK⟩
  ·refine gn rfl <| gn rfl <| gn rfl <| gn rfl <| gn rfl <| gn rfl <| gn rfl <| gn rfl <| vl (pk rfl) <| vl (aI rfl) <| vl (aB rfl) <| nl <| thn <| rt <| p2r (a := .int _ _) (b := .bool _) rfl rfl <| ?_
   exact ⟨⟨i, false, rfl, by omega, ha, fun h => hb _ (bs_mem h), by simp; omega⟩, hK⟩
theorem bsearchN_c {F : FuncId} {cap : List Value} {key : Rn → Int} (hf : ∀ args w, (callFunc F args).run prog w = .ok (.enter F args) w) (hK : K e w G L) (hv : SlR 3 (EF rc) G v rs) (hl : rs.length ≤ 1000000) (hs : rs.Pairwise (fun a b => key a < key b))
  (hp : ∀ x ∈ rs, ∀ w, K e w G L → Ret prog F ([Value.agg (rc x).toArray, .int .i64 k] ++ cap).toArray w (fun r w' => (∃ m, r = .int .i64 m ∧ (m < 0 ↔ key x < k) ∧ (m = 0 ↔ key x = k)) ∧ K e w' G L)) :
  Ret prog 222 #[v, .int .i64 k, .func (.func F) #[] cap.toArray] w (fun r w' => (∃ (i : Nat) (b : Bool), r = .tuple #[.int .i64 (i : Int), .bool b] ∧ BsR key rs k i b) ∧ K e w' G L) := by
 refine enter2 (args := [v, .int .i64 k, .func (.func F) #[] cap.toArray]) func222 rfl rfl rfl rfl ?_
 refine sq <| rg <| ?_
 refine vl (aI rfl) <| vl (aB rfl) <| nl <| thn <| sq <| rg <| vl mv <| vl (ln underlying25 rfl hv.len) <| vl (aI rfl) <| nl <| thn <| sq <| rg <| vl (mI rfl) <| vl (aI rfl) <| vl (aI rfl) <| nl <| thn <| ?_
 refine sq <| bk <| ?_
 refine lp (σ := Nat × Nat) (fun s => [(0, v), (1, .int .i64 k), (2, .func (.func F) #[] cap.toArray), (8, .int .i64 (rs.length : Int)), (9, .int .i64 (s.1 : Int)), (10, .int .i64 (s.2 : Int))]) (fun s w => s.1 ≤ s.2 ∧ s.2 ≤ rs.length ∧ (∀ x ∈ rs.take s.1, key x < k) ∧ (∀ x ∈ rs.drop s.2, k ≤ key x) ∧ K e w G L) (fun s => s.2 - s.1) (0, rs.length) ⟨rfl, rfl, rfl, rfl, rfl, rfl, trivial⟩ ⟨Nat.zero_le _, Nat.le_refl _, by simp, by simp, hK⟩ ?_
 rintro ⟨i, j⟩ g w ⟨hij, hj, ha, hb, hK⟩
 simp only at hij hj ha hb hK
 refine sq <| sq <| rg <| ?_
 refine vl (mI rfl) <| vl (mI rfl) <| vl (lt rfl rfl) <| nl <| thn <| ?_
 refine cdP rfl (fun hc => ?_) fun hc => ?_
 ·have hij' : i < j := by simp only at hc; omega
  have hh : (i + j) / 2 < rs.length := by omega
  refine sk <| thn <| bk <| sq <| rg <| ?_
  refine vl (mI rfl) <| vl (mI rfl) <| vl (ad rfl rfl) <| vl (cvU underlying3 underlying181 rfl om om) <| vl (shrN (m := i + j) rfl rfl om) <| vl (cv underlying181 underlying3 rfl om om) <| vl (aI rfl) <| nl <| thn <| sq <| rg <| vl mv <| vl mv <| vl (mI rfl) <| vl (ixn underlying25 Ty.s98 rfl hv.1 rfl om) <| vl (lsF hK Ty.a98 Ty.s98 rfl hv om) <| vl (mI rfl) <| ?_
  refine cf (cap := cap) (hf) rfl rfl (hp rs[(i + j) / 2] (List.getElem_mem hh) w hK) ?_
  rintro _ w ⟨⟨m, rfl, hm1, hm2⟩, hK⟩
  refine vl (lt rfl rfl) <| nl <| thn <| ?_
  refine cdP rfl (fun hq => ?_) fun hq => ?_
  ·have hq' := hm1.1 hq
   refine rg <| ?_
   refine vl (mI rfl) <| vl (ad rfl rfl) <| vl (aI rfl) <| nl <| bkn <| thn <| ?_
   refine ⟨((i + j) / 2 + 1, j), ⟨rfl, rfl, rfl, rfl, rfl, rfl, trivial⟩, ⟨by simp only; omega, hj, ?_, hb, hK⟩, by simp only; omega⟩
   exact bs_lo hs hh hq'
  ·have hq' : k ≤ key rs[(i + j) / 2] := by have := mt hm1.2 hq; omega
   refine rg <| ?_
   refine vl (mI rfl) <| vl (aI rfl) <| nl <| bkn <| thn <| ?_
   refine ⟨(i, (i + j) / 2), ⟨rfl, rfl, rfl, rfl, rfl, rfl, trivial⟩, ⟨by simp only; omega, by simp only; omega, ha, ?_, hK⟩, by simp only; omega⟩
   exact bs_hi hs hh hq'
 ·have hij' : i = j := by simp only at hc; omega
  subst hij'
  refine ex <| the <| the <| bkh <| thn <| sq <| rg <| ?_
  refine vl (mI rfl) <| vl (mI rfl) <| vl (mI rfl) <| vl (lt rfl rfl) <| vl (mB rfl) <| ?_
  refine splP (t := 39) rfl (fun hlt => ?_) fun hlt => ?_
  ·have hi' : i < rs.length := by omega
   refine gy rfl <| vl mv <| gy rfl <| vl mv <| gy rfl <| vl (mI rfl) <| gy rfl <| vl (ixn underlying25 Ty.s98 rfl hv.1 rfl om) <| gy rfl <| vl (lsF hK Ty.a98 Ty.s98 rfl hv om) <| gy rfl <| vl (mI rfl) <| gy rfl <| ?_
   refine cf (cap := cap) (hf) rfl rfl (hp rs[i] (List.getElem_mem hi') w hK) ?_
   rintro _ w ⟨⟨m, rfl, hm1, hm2⟩, hK⟩
   refine gy rfl <| vl (eq rfl rfl) <| vl (pk rfl) <| vl (aI rfl) <| vl (aB rfl) <| nl <| thn <| rt <| p2r (a := .int _ _) (b := .bool _) rfl rfl <| ?_
   exact ⟨⟨i, _, rfl, by omega, ha, fun h => hb _ (bs_mem h), by rw [decide_eq_true_iff, hm2]; exact ⟨fun h => ⟨hi', h⟩, fun ⟨_, h⟩ => h⟩⟩, hK⟩
  ·refine gn rfl <| gn rfl <| gn rfl <| gn rfl <| gn rfl <| gn rfl <| gn rfl <| gn rfl <| vl (pk rfl) <| vl (aI rfl) <| vl (aB rfl) <| nl <| thn <| rt <| p2r (a := .int _ _) (b := .bool _) rfl rfl <| ?_
   exact ⟨⟨i, false, rfl, by omega, ha, fun h => hb _ (bs_mem h), by simp; omega⟩, hK⟩
end
end Go.Proofs.YtmgggljicpmndaaGreatDoor
