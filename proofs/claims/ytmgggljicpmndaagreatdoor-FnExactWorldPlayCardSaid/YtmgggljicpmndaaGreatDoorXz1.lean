/- Events of a law copied, compared, marked; plays of a world: what they give back lies in new memory. Conditions: those that each row states. -/
import Derived.Test.YtmgggljicpmndaaGreatDoorPy
import Derived.Test.YtmgggljicpmndaaGreatDoorXy1
namespace Go.Proofs.YtmgggljicpmndaaGreatDoor
open Go Go.Ro Tryz
section
variable {e w : World} {G G0 : View} {L A : Own} {v u : Value} {xs ys : List Int} {es fs : List Ev} {rs qs : List Rn} {W W' : Wv} {wd wd' : Wd} {n m k : Int} {a0 a1 : Addr}
theorem toEventX_c (hK : K e w G L) {x : Ev} : Ret prog 20 #[.agg (evc x).toArray] w (fun r w' => r = .agg (evc x).toArray ∧ K e w' G L) :=
 toEvent_c (kd := x.1) (a := x.2.1) (b := x.2.2.1) (c := x.2.2.2) hK
theorem eqEvent_c (hK : K e w G L) {x y : Ev} : Ret prog 31 #[.agg (evc x).toArray, .agg (evc y).toArray] w (fun r w' => r = .bool (decide (x = y)) ∧ K e w' G L) := by
 refine enter1 (args := [.agg (evc x).toArray, .agg (evc y).toArray]) func31 rfl rfl rfl rfl ?_
 refine sq <| rg <| ?_
 refine bx hK rfl rfl ?_
 intro b2 w hK
 refine bx hK rfl rfl ?_
 intro b3 w hK
 refine vl (aB rfl) <| nl <| thn <| sq <| sq <| rg <| vl (fa underlying55 rfl Ty.z3 rfl) <| vl (ldO hK Ty.o3 1 rfl rfl rfl) <| vl (fa underlying55 rfl Ty.z3 rfl) <| vl (ldO hK Ty.o3 0 rfl rfl rfl) <| vl (ne rfl rfl) <| nl <| thn <| ?_
 refine cdP rfl (fun h1 => ?_) fun h1 => ?_
 ·refine sq <| rg <| ?_
  refine vl (aB rfl) <| nl <| thn <| rt <| thr <| p1r (a := .bool _) rfl <| ?_
  exact ⟨by rw [decide_eq_false]; rintro rfl; exact h1 rfl, hK.drop1.drop1⟩
 ·refine sk <| thn <| sq <| sq <| rg <| ?_
  refine vl (fa underlying55 rfl Ty.z3 rfl) <| vl (ldO hK Ty.o3 1 rfl rfl rfl) <| vl (fa underlying55 rfl Ty.z3 rfl) <| vl (ldO hK Ty.o3 0 rfl rfl rfl) <| vl (ne rfl rfl) <| nl <| thn <| ?_
  refine cdP rfl (fun h2 => ?_) fun h2 => ?_
  ·refine sq <| rg <| ?_
   refine vl (aB rfl) <| nl <| thn <| rt <| thr <| p1r (a := .bool _) rfl <| ?_
   exact ⟨by rw [decide_eq_false]; rintro rfl; exact h2 rfl, hK.drop1.drop1⟩
  ·refine sk <| thn <| sq <| sq <| rg <| ?_
   refine vl (fa underlying55 rfl Ty.z3 rfl) <| vl (ldO hK Ty.o3 1 rfl rfl rfl) <| vl (fa underlying55 rfl Ty.z3 rfl) <| vl (ldO hK Ty.o3 0 rfl rfl rfl) <| vl (ne rfl rfl) <| nl <| thn <| ?_
   refine cdP rfl (fun h3 => ?_) fun h3 => ?_
   ·refine sq <| rg <| ?_
    refine vl (aB rfl) <| nl <| thn <| rt <| thr <| p1r (a := .bool _) rfl <| ?_
    exact ⟨by rw [decide_eq_false]; rintro rfl; exact h3 rfl, hK.drop1.drop1⟩
   ·refine sk <| thn <| sq <| sq <| rg <| ?_
    refine vl (fa underlying55 rfl Ty.z3 rfl) <| vl (ldO hK Ty.o3 1 rfl rfl rfl) <| vl (fa underlying55 rfl Ty.z3 rfl) <| vl (ldO hK Ty.o3 0 rfl rfl rfl) <| vl (ne rfl rfl) <| nl <| thn <| ?_
    refine cdP rfl (fun h4 => ?_) fun h4 => ?_
    ·refine sq <| rg <| ?_
     refine vl (aB rfl) <| nl <| thn <| rt <| thr <| p1r (a := .bool _) rfl <| ?_
     exact ⟨by rw [decide_eq_false]; rintro rfl; exact h4 rfl, hK.drop1.drop1⟩
    ·refine sk <| thn <| sq <| rg <| ?_
     refine vl (aB rfl) <| nl <| thn <| rt <| p1r (a := .bool _) rfl <| ?_
     exact ⟨by rw [decide_eq_true]; exact Prod.ext (Decidable.not_not.1 h1) (Prod.ext (Decidable.not_not.1 h2) (Prod.ext (Decidable.not_not.1 h3) (Decidable.not_not.1 h4))), hK.drop1.drop1⟩
theorem eqEventS_c (hK : K e w G L) (hv : EvS G v es) (hu : EvS G u fs) :
  Ret prog 12 #[v, u] w (fun r w' => r = .bool (decide (es = fs)) ∧ K e w' G L) := by
 have hle := hv.le
 refine enter1 (args := [v, u]) func12 rfl rfl rfl rfl ?_
 refine sq <| rg <| ?_
 refine vl (aB rfl) <| nl <| thn <| sq <| sq <| rg <| vl mv <| vl (ln underlying35 rfl hv.len) <| vl mv <| vl (ln underlying35 rfl hu.len) <| vl (ne rfl rfl) <| nl <| thn <| ?_
 refine cdP rfl (fun h => ?_) fun h => ?_
 ·refine sq <| rg <| ?_
  refine vl (aB rfl) <| nl <| thn <| rt <| thr <| p1r (a := .bool _) rfl <| ?_
  exact ⟨by rw [decide_eq_false]; rintro rfl; exact h rfl, hK⟩
 ·have hlen : es.length = fs.length := by omega
  refine sk <| thn <| sq <| sq <| rg <| ?_
  refine vl (aI rfl) <| nl <| thn <| bk <| ?_
  refine lp (σ := Nat) (fun i => [(0, v), (1, u), (5, .int .i64 (i : Int))]) (fun i w => i ≤ es.length ∧ es.take i = fs.take i ∧ K e w G L) (fun i => es.length - i) 0 ⟨rfl, rfl, rfl, trivial⟩ ⟨Nat.zero_le _, by simp, hK⟩ ?_
  rintro i g w ⟨hi, ht, hK⟩
  refine sq <| sq <| rg <| ?_
  refine vl (mI rfl) <| vl mv <| vl (ln underlying35 rfl hv.len) <| vl (lt rfl rfl) <| nl <| thn <| ?_
  refine cdP rfl (fun hc => ?_) fun hc => ?_
  ·have hi' : i < es.length := by omega
   have hi2 : i < fs.length := by omega
   refine sk <| thn <| sq <| bk <| sq <| ?_
   refine rgq (fun w => K _ w _ _) Ty.mixed kr (hK.drawn _) ?_
   refine qv (fun w hK => mv) <| qv (fun w hK => (mI rfl)) <| qv (fun w hK => (ixn underlying35 Ty.s55 rfl hv.1 rfl om)) <| qv (fun w hK => (lsF hK Ty.a55 Ty.s55 rfl hv om)) <| qv (fun w hK => mv) <| qv (fun w hK => (mI rfl)) <| qv (fun w hK => (ixn underlying35 Ty.s55 rfl hu.1 rfl om)) <| qv (fun w hK => (lsF hK Ty.a55 Ty.s55 rfl hu om)) <| ?_
   refine qcl call31 rfl (fun w hK => eqEvent_c hK) ?_
   refine qv (fun w hK => (nt rfl)) <| qn <| ?_
   intro w hK
   refine thn <| ?_
   refine cdP rfl (fun hx => ?_) fun hx => ?_
   ·refine sq <| rg <| ?_
    refine vl (aB rfl) <| nl <| thn <| rt <| bkr <| thr <| thr <| bkr <| thr <| p1r (a := .bool _) rfl <| ?_
    exact ⟨by rw [decide_eq_false]; rintro rfl; exact hx rfl, hK⟩
   ·have hxx : es[i] = fs[i] := Decidable.not_not.1 hx
    refine sk <| bkn <| thn <| rg <| ?_
    refine vl (mI rfl) <| vl (ad rfl rfl) <| vl (aI rfl) <| nl <| thn <| ?_
    exact ⟨i + 1, ⟨rfl, rfl, rfl, trivial⟩, ⟨hi', by rw [List.take_succ_eq_append_getElem hi', List.take_succ_eq_append_getElem hi2, ht, hxx], hK⟩, by omega⟩
  ·refine ex <| the <| the <| bkh <| thn <| sq <| rg <| ?_
   refine vl (aB rfl) <| nl <| thn <| rt <| p1r (a := .bool _) rfl <| ?_
   exact ⟨by rw [decide_eq_true]; rw [List.take_of_length_le (by omega), List.take_of_length_le (by omega)] at ht; exact ht, hK⟩
theorem eqEventS_o (hK : K e w G (A ++ L)) (ho : OS 4 55 v es.length (es.flatMap evc) A) (hu : EvS G u fs) :
  Ret prog 12 #[v, u] w (fun r w' => r = .bool (decide (es = fs)) ∧ K e w' G (A ++ L)) :=
 Ret.own hK fun hK' => eqEventS_c hK' (ho.ef (fun _ => rfl)) (EF.mono hu hK.addV_le)
theorem szEventS_c (hK : K e w G L) (hv : EvS G v es) {n : Int} (h0 : 0 ≤ n) (h1 : n ≤ 1048576) :
  Ret prog 5 #[v, .int .i64 n] w (fun r w' => (∃ k, r = .int .i64 k ∧ -1 ≤ k ∧ k ≤ n ∧ (0 ≤ k → k = n - es.length)) ∧ K e w' G L) := by
 have hle := hv.le
 refine enter1 (args := [v, .int .i64 n]) func5 rfl rfl rfl rfl ?_
 refine sq <| rg <| ?_
 refine vl (aI rfl) <| nl <| thn <| sq <| rg <| vl (mI rfl) <| vl mv <| vl (ln underlying23 rfl hv.len) <| vl (sb rfl rfl) <| vl (aI rfl) <| nl <| thn <| sq <| sq <| rg <| vl (mI rfl) <| vl (lt rfl rfl) <| nl <| thn <| ?_
 refine cdP rfl (fun h => ?_) fun h => ?_
 ·refine sq <| rg <| ?_
  refine vl (aI rfl) <| nl <| thn <| rt <| thr <| p1r (a := .int _ _) rfl <| ?_
  exact ⟨⟨_, rfl, by omega, by omega, by omega⟩, hK⟩
 ·refine sk <| thn <| sq <| rg <| ?_
  refine vl (mI rfl) <| vl (aI rfl) <| nl <| thn <| rt <| p1r (a := .int _ _) rfl <| ?_
  exact ⟨⟨_, rfl, by omega, by omega, by omega⟩, hK⟩
theorem toEventS_c (hK : K e w G L) (hv : EvS G v es) (hl : es.length ≤ 1048576) :
  Ret prog 8 #[v] w (fun r w' => ∃ A, OS 4 55 r es.length (es.flatMap evc) A ∧ K e w' G (A ++ L)) := by
 refine enter1 (args := [v]) func8 rfl rfl rfl rfl ?_
 refine sq <| rg <| ?_
 refine vl asg <| nl <| thn <| sq <| rg <| vl mv <| vl (ln underlying23 rfl hv.len) <| ?_
 refine mks hK underlying35 Ty.i55 rfl rfl rfl rfl rfl om rfl ?_
 intro b7 w ho7 hK
 refine vl asg <| nl <| thn <| sq <| sq <| rg <| vl (aI rfl) <| nl <| thn <| bk <| ?_
 rw [show ([.int .i64 0, .int .i64 0, .int .i64 0, .int .i64 0] : List Value) = evc (0, 0, 0, 0) from rfl, flat_rep] at hK ho7
 refine lp (σ := Nat × Own) (fun s => [(0, v), (3, .slice (some ⟨b7, 0, none⟩) es.length es.length), (4, .int .i64 (s.1 : Int))]) (fun s w => s.1 ≤ es.length ∧ OS 4 55 (.slice (some ⟨b7, 0, none⟩) es.length es.length) es.length ((es.take s.1 ++ List.replicate (es.length - s.1) (0, 0, 0, 0)).flatMap evc) s.2 ∧ K e w G (s.2 ++ L)) (fun s => es.length - s.1) (0, [_]) ⟨rfl, rfl, rfl, trivial⟩ ⟨Nat.zero_le _, by simpa using ho7, by simpa using hK⟩ ?_
 rintro ⟨i, A⟩ g w ⟨hi, ho, hK⟩
 simp only at hi ho hK
 refine sq <| sq <| rg <| ?_
 refine vl (mI rfl) <| vl mv <| vl (ln underlying23 rfl hv.len) <| vl (lt rfl rfl) <| nl <| thn <| ?_
 refine cdP rfl (fun hc => ?_) fun hc => ?_
 ·have hi' : i < es.length := by simp only at hc; omega
  refine sk <| thn <| sq <| bk <| rg <| ?_
  refine vl mv <| vl (mI rfl) <| vl mv <| vl (mI rfl) <| vl (ixn underlying23 Ty.s51 rfl hv.1 rfl om) <| vl (lsF hK Ty.a51 Ty.s51 rfl hv om) <| ?_
  refine cl call20 rfl (toEventX_c hK) ?_
  rintro _ w ⟨rfl, hK⟩
  refine vl (ixn underlying35 Ty.s55 rfl ho.slw rfl om) <| ?_
  refine osSetS (i := i) (us := evc es[i]) hK ho om Ty.i55 rfl rfl rfl rfl fun A' w ho hK => ?_
  rw [flat_sets (c := evc) (sz := 4) (fun _ => rfl) _ i es[i] (by rw [List.length_append, List.length_take, List.length_replicate]; omega)] at ho
  have hs := set_next (us := es.take i) (z := ((0, 0, 0, 0) : Ev)) (u := es[i]) (i := i) (m := es.length) (by rw [List.length_take]; omega) hi'
  rw [Nat.zero_add] at hs
  rw [hs, ← List.take_succ_eq_append_getElem hi'] at ho
  refine nl <| bkn <| thn <| rg <| vl (mI rfl) <| vl (ad rfl rfl) <| vl (aI rfl) <| nl <| thn <| ?_
  exact ⟨(i + 1, A'), ⟨rfl, rfl, rfl, trivial⟩, ⟨hi', ho, hK⟩, by simp only; omega⟩
 ·have : i = es.length := by simp only at hc; omega
  subst this
  refine ex <| the <| the <| bkh <| thn <| sq <| rg <| ?_
  refine vl mv <| vl asg <| nl <| thn <| rt <| p1r (a := _) rfl <| ?_
  have ho' : OS 4 55 (.slice (some ⟨b7, 0, none⟩) es.length es.length) es.length (es.flatMap evc) A := by simpa using ho
  exact ⟨A, ho', hK⟩
theorem toEventS_v (hK : K e w G L) (hv : EvS G v es) (hl : es.length ≤ 1048576) :
  Ret prog 8 #[v] w (fun r w' => ∃ G', VLe G G' ∧ EvS G' r es ∧ K e w' G' L) :=
 (toEventS_c hK hv hl).mono fun _ _ ⟨_, ho, hK⟩ => K.pubE (fun _ => rfl) hK ho
theorem markEventS_c (hK : K e w G (A ++ L)) (ho : OS 4 55 v es.length (es.flatMap evc) A) (hl : es.length ≤ 1048576) (h0 : 0 ≤ k) (h1 : k ≤ 1000000000) :
  Ret prog 14 #[v, .int .i64 k] w (fun r w' => r = .int .i64 (k + 4 * es.length) ∧ ∃ A', K e w' G (A' ++ L)) := by
 refine enter1 (args := [v, .int .i64 k]) func14 rfl rfl rfl rfl ?_
 refine sq <| rg <| ?_
 refine vl (aI rfl) <| nl <| thn <| sq <| sq <| rg <| vl (aI rfl) <| nl <| thn <| bk <| ?_
 refine lp (σ := Nat × List Value × Own) (fun s => [(0, v), (1, .int .i64 (k + 4 * (s.1 : Int))), (5, .int .i64 (s.1 : Int))]) (fun s w => s.1 ≤ es.length ∧ OS 4 55 v es.length s.2.1 s.2.2 ∧ K e w G (s.2.2 ++ L)) (fun s => es.length - s.1) (0, _, A) ⟨rfl, (by show Value.int .i64 k = Value.int .i64 (k + 4 * ((0 : Nat) : Int)); simp), rfl, trivial⟩ ⟨Nat.zero_le _, ho, hK⟩ ?_
 rintro ⟨i, cs, A⟩ g w ⟨hi, ho, hK⟩
 simp only at hi ho hK
 refine sq <| sq <| rg <| ?_
 refine vl (mI rfl) <| vl mv <| vl (ln underlying35 rfl ho.len) <| vl (lt rfl rfl) <| nl <| thn <| ?_
 refine cdP rfl (fun hc => ?_) fun hc => ?_
 ·have hi' : i < es.length := by simp only at hc; omega
  refine sk <| thn <| sq <| bk <| sq <| rg <| ?_
  refine vl mv <| vl (mI rfl) <| vl (mI rfl) <| vl (ixn underlying35 Ty.s55 rfl ho.slw rfl om) <| vl (fe underlying55 rfl Ty.z3 rfl ho.slw om) <| ?_
  refine osSetC (i := i * 4 + 0) hK ho om Ty.i3 rfl rfl rfl rfl fun A' w ho hK => ?_
  refine nl <| thn <| sq <| rg <| vl (mI rfl) <| vl (ad rfl rfl) <| vl (aI rfl) <| nl <| thn <| sq <| rg <| vl mv <| vl (mI rfl) <| vl (mI rfl) <| vl (ixn underlying35 Ty.s55 rfl ho.slw rfl om) <| vl (fe underlying55 rfl Ty.z3 rfl ho.slw om) <| ?_
  refine osSetC (i := i * 4 + 1) hK ho om Ty.i3 rfl rfl rfl rfl fun A' w ho hK => ?_
  refine nl <| thn <| sq <| rg <| vl (mI rfl) <| vl (ad rfl rfl) <| vl (aI rfl) <| nl <| thn <| sq <| rg <| vl mv <| vl (mI rfl) <| vl (mI rfl) <| vl (ixn underlying35 Ty.s55 rfl ho.slw rfl om) <| vl (fe underlying55 rfl Ty.z3 rfl ho.slw om) <| ?_
  refine osSetC (i := i * 4 + 2) hK ho om Ty.i3 rfl rfl rfl rfl fun A' w ho hK => ?_
  refine nl <| thn <| sq <| rg <| vl (mI rfl) <| vl (ad rfl rfl) <| vl (aI rfl) <| nl <| thn <| sq <| rg <| vl mv <| vl (mI rfl) <| vl (mI rfl) <| vl (ixn underlying35 Ty.s55 rfl ho.slw rfl om) <| vl (fe underlying55 rfl Ty.z3 rfl ho.slw om) <| ?_
  refine osSetC (i := i * 4 + 3) hK ho om Ty.i3 rfl rfl rfl rfl fun A' w ho hK => ?_
  refine nl <| thn <| rg <| vl (mI rfl) <| vl (ad rfl rfl) <| vl (aI rfl) <| nl <| bkn <| thn <| rg <| vl (mI rfl) <| vl (ad rfl rfl) <| vl (aI rfl) <| nl <| thn <| ?_
  refine ⟨(i + 1, _, A'), ⟨rfl, ?_, rfl, trivial⟩, ⟨hi', ho, hK⟩, by simp only; omega⟩
  show Value.int .i64 (k + 4 * (i : Int) + 1 + 1 + 1 + 1) = Value.int .i64 (k + 4 * ((i + 1 : Nat) : Int))
  congr 1; omega
 ·have : i = es.length := by simp only at hc; omega
  subst this
  refine ex <| the <| the <| bkh <| thn <| sq <| rg <| ?_
  refine vl (mI rfl) <| vl (aI rfl) <| nl <| thn <| rt <| p1r (a := .int _ _) rfl <| ?_
  exact ⟨rfl, A, hK⟩
theorem implWorldNewOF_c (hK : K e w G L) (hv : IntS G v xs) : Ret prog 25 #[v] w (fun r w' => ∃ G' W wd rs b, r = .tuple #[.agg (wc W).toArray, .bool b] ∧ VLe G G' ∧ WdS G' lc W wd rs ∧ (b = true ↔ NdsOk xs ∧ 3 ≤ xs.length) ∧ (W.i = .slice none 0 0 ∧ W.s = .slice none 0 0) ∧ WdN 98 101 3 lc G G' W wd rs ∧ wd = (if b then newW xs else wdZ) ∧ K e w' G' L) := by
 have hle := hv.le
 refine enterG2 (args := [v]) func25 rfl rfl rfl rfl ?_
 refine sq <| rg <| ?_
 refine al hK Ty.i31 rfl ?_
 intro b2 w hK
 refine vl (aB rfl) <| nl <| thn <| sq <| rg <| vl mv <| ?_
 refine cl call62 rfl (implRingNewF_c hK hv) ?_
 rintro _ w ⟨G1, u, rs, b, rfl, hG1, hR, hRn, hb, hrg, hK⟩
 refine vl mv <| vl (ext rfl rfl) <| vl (ext rfl rfl) <| vl asg <| vl (aB rfl) <| nl <| thn <| sq <| sq <| rg <| vl (mB rfl) <| vl (ntB rfl) <| nl <| thn <| ?_
 refine cdB rfl (fun h1 => ?_) fun h1 => ?_
 ·have h1' : b = false := Eq.mp (Bool.not_eq_true' _) h1
  refine sq <| rg <| ?_
  refine vl (bd [] Ty.p31 Ty.i31 rfl trivial rfl) <| ?_
  refine soS hK Ty.i31 0 rfl rfl rfl rfl rfl rfl ?_
  intro w hK
  refine vl (aB rfl) <| nl <| thn <| rt <| thr <| pg2r (rvS hK Ty.a31 Ty.s31 0 rfl rfl rfl) (rvT (v := .bool _) rfl) <| ?_
  exact ⟨G1, ⟨0, .slice none 0 0, .slice none 0 0, .slice none 0 0, 0, .slice none 0 0, .slice none 0 0⟩, wdZ, [], false, rfl, hG1, WdS.zero, by rw [← hb, h1'], ⟨rfl, rfl⟩, WdN.of (RgNew.empty SlW.nil0) New.nil0 New.nil0 List.nodup_nil, rfl, hK.drop1⟩
 ·have h1' : b = true := Eq.mp (Bool.not_eq_false' _) h1
  have hok := hb.1 h1'
  rw [h1'] at hrg
  have hidl : ids (rgl rs) = xs := by rw [hrg]; exact ids_idl xs
  have hlen : rs.length = xs.length := by rw [← rg_len, hrg]; simp [idl]
  refine sk <| thn <| sq <| rg <| ?_
  refine vl mv <| vl mv <| ?_
  refine cl call63 rfl (leasesFor_c hK hR (by have := hok.1.1; omega) om om) ?_
  rintro l w ⟨A, ho, hK⟩
  rw [hidl] at ho
  obtain ⟨G2, hG2, hl, hln, hlb, hK⟩ := K.pubEF (c := lc) (xs := xs.map fun i => (i, i, min (0 + 20) 999)) (fun _ => rfl) hK (by rw [List.length_map, ← hlen]; exact ho) hG1
  refine vl (bd [(1, _), (2, _)] Ty.p31 Ty.i31 rfl ⟨⟨rfl, one_cells hR.sl.1.one⟩, ⟨rfl, one_cells hl.1.one⟩, trivial⟩ rfl) <| ?_
  refine soS hK Ty.i31 0 rfl rfl rfl rfl (allc rfl (allc hR.sl.1.one (allc hl.1.one (allc rfl (allc rfl (allc rfl (allc rfl rfl))))))) rfl ?_
  intro w hK
  refine vl (aB rfl) <| nl <| thn <| rt <| pg2r (rvS hK Ty.a31 Ty.s31 0 rfl rfl rfl) (rvT (v := .bool _) rfl) <| ?_
  exact ⟨G2, ⟨0, u, l, .slice none 0 0, 0, .slice none 0 0, .slice none 0 0⟩, newW xs, rs, true, rfl, hG1.trans hG2, ⟨rfl, hR.mono hG2, hrg, hl, SlR.lit0, rfl, SlR.lit0, SlR.lit0⟩, by simp [hok], ⟨rfl, rfl⟩, WdN.of (hRn.mono hG2) hln New.nil0 (cwNd (tS := 3) (G3 := G2) (k := 0) (ds := []) (t := .slice none 0 0) hRn hln New.nil0 hG2 (VLe.refl _) hlb (fun _ hb => nomatch hb)), rfl, (K.sl hK (by repeat' (first | exact List.Sublist.refl _ | refine List.Sublist.cons _ ?_)))⟩
set_option maxHeartbeats 1000000 in
theorem implWorldPlayF_c (hE : ErrS 228 0 1 G a0 a1) (hK : K e w G L) (hv : IntS G v xs) (hu : EvS G u es) :
  Ret prog 9 #[v, u] w (fun r w' => ∃ G' W wd rs b, r = .tuple #[.agg (wc W).toArray, .bool b] ∧ VLe G G' ∧ WdS G' lc W wd rs ∧ WdF lc 98 101 104 3 G G' W wd rs ∧ (b = true ↔ PlOk xs es) ∧ wd = (if b then plF xs es else wdZ) ∧ K e w' G' L) := by
 have hle := hu.1.le
 refine enterG2 (args := [v, u]) func9 rfl rfl rfl rfl ?_
 refine sq <| rg <| ?_
 refine al hK Ty.i31 rfl ?_
 intro b4 w hK
 refine vl (aB rfl) <| nl <| thn <| sq <| rg <| vl mv <| ?_
 refine cl call25 rfl (implWorldNewOF_c hK hv) ?_
 rintro _ w ⟨G1, W, wd, rs, b, rfl, hG1, hW, hb, ⟨hWi, hWs⟩, hNw, hwd, hK⟩
 refine vl mv <| vl (ext rfl rfl) <| vl (ext rfl rfl) <| ?_
 refine al hK Ty.i31 rfl ?_
 intro b6 w hK
 refine soS hK Ty.i31 0 rfl rfl rfl rfl (WdS.one hW) rfl ?_
 intro w hK
 refine vl (aB rfl) <| nl <| thn <| sq <| sq <| rg <| vl (mB rfl) <| vl (ntB rfl) <| vl (mB rfl) <| ?_
 refine spl (t := 18) rfl (fun h1 => ?_) fun h1 => ?_
 ·have h1' : b = false := Eq.mp (Bool.not_eq_true' _) h1
  refine gn rfl <| gn rfl <| gn rfl <| vl (pk rfl) <| nl <| thn <| ?_
  refine cdt rfl ?_
  refine sq <| rg <| ?_
  refine vl (bd [] Ty.p31 Ty.i31 rfl trivial rfl) <| ?_
  refine soS hK Ty.i31 1 rfl rfl rfl rfl rfl rfl ?_
  intro w hK
  refine vl (aB rfl) <| nl <| thn <| rt <| thr <| pg2r (rvS hK Ty.a31 Ty.s31 1 rfl rfl rfl) (rvT (v := .bool _) rfl) <| ?_
  exact ⟨G1, ⟨0, .slice none 0 0, .slice none 0 0, .slice none 0 0, 0, .slice none 0 0, .slice none 0 0⟩, wdZ, [], false, rfl, hG1, WdS.zero, WdF.zero, ⟨fun h => (by cases h), fun h => (by rw [hb.2 h.1] at h1'; cases h1')⟩, rfl, hK.drop1.drop1⟩
 ·have h1' : b = true := Eq.mp (Bool.not_eq_false' _) h1
  have hok := hb.1 h1'
  rw [h1', if_pos rfl] at hwd
  refine gy rfl <| vl mv <| gy rfl <| vl (ln underlying35 rfl hu.len) <| gy rfl <| vl (gt rfl rfl) <| vl (pk rfl) <| nl <| thn <| ?_
  refine cdP rfl (fun h2 => ?_) fun h2 => ?_
  ·refine sq <| rg <| ?_
   refine vl (bd [] Ty.p31 Ty.i31 rfl trivial rfl) <| ?_
   refine soS hK Ty.i31 1 rfl rfl rfl rfl rfl rfl ?_
   intro w hK
   refine vl (aB rfl) <| nl <| thn <| rt <| thr <| pg2r (rvS hK Ty.a31 Ty.s31 1 rfl rfl rfl) (rvT (v := .bool _) rfl) <| ?_
   exact ⟨G1, ⟨0, .slice none 0 0, .slice none 0 0, .slice none 0 0, 0, .slice none 0 0, .slice none 0 0⟩, wdZ, [], false, rfl, hG1, WdS.zero, WdF.zero, ⟨fun h => (by cases h), fun h => (by have := h.2; omega)⟩, rfl, hK.drop1.drop1⟩
  ·have hpl : PlOk xs es := ⟨hok, by omega⟩
   have hO : WdP G G1 98 101 lc 104 3 W wd rs [] [] := ⟨WdO.fresh hW hWi hWs (by rw [hwd]; rfl) (by rw [hwd]; rfl), hNw⟩
   refine sk <| thn <| sq <| rg <| ?_
   refine vl (lsO hK Ty.a31 Ty.s31 0 rfl rfl rfl) <| vl (bd [(1, _)] Ty.p69 Ty.i69 rfl ⟨⟨rfl, rfl⟩, trivial⟩ rfl) <| ?_
   refine bx hK rfl rfl ?_
   intro b26 w hK
   refine vl asg <| nl <| thn <| sq <| sq <| rg <| vl mv <| vl (ln underlying35 rfl hu.len) <| vl (mI rfl) <| nl <| thn <| bk <| ?_
   replace hK : K e w G1 ((b26, row (.int .i32 0 :: .int .u32 0 :: wc W) 69) :: (b6, row (wc W) 31) :: (b4, row [.int .i64 0, .slice none 0 0, .slice none 0 0, .slice none 0 0, .int .i64 0, .slice none 0 0, .slice none 0 0] 31) :: L) := hK
   replace hK : K _ _ _ ((b26, row (.int .i32 0 :: .int .u32 0 :: wc W) 69) :: (b4, row [.int .i64 0, .slice none 0 0, .slice none 0 0, .slice none 0 0, .int .i64 0, .slice none 0 0, .slice none 0 0] 31) :: (b6, row (wc W) 31) :: L) := hK.reo
   refine lp (σ := Nat × View × Wv × List Rn × Own × Own) (fun s => [(4, .pointer (some ⟨b4, 0, none⟩)), (5, .bool false), (8, .pointer (some ⟨b26, 0, none⟩)), (27, u), (28, .int .i64 (es.length : Int)), (29, .int .i64 (s.1 : Int))]) (fun s w => s.1 ≤ es.length ∧ VLe G1 s.2.1 ∧ WdP G s.2.1 98 101 lc 104 3 s.2.2.1 (plE wd (es.take s.1)) s.2.2.2.1 s.2.2.2.2.1 s.2.2.2.2.2 ∧ K e w s.2.1 ((b26, row (.int .i32 0 :: .int .u32 0 :: wc s.2.2.1) 69) :: (b4, row [.int .i64 0, .slice none 0 0, .slice none 0 0, .slice none 0 0, .int .i64 0, .slice none 0 0, .slice none 0 0] 31) :: (b6, row (wc W) 31) :: (s.2.2.2.2.1 ++ (s.2.2.2.2.2 ++ L)))) (fun s => es.length - s.1) (0, G1, W, rs, [], []) ⟨rfl, rfl, rfl, rfl, rfl, rfl, trivial⟩ ⟨Nat.zero_le _, VLe.refl _, hO, hK⟩ ?_
   clear hO hK
   rintro ⟨i, G2, W2, q2, AI, AS⟩ g w ⟨hi, hG2, hW2, hK⟩
   simp only at hi hG2 hW2 hK
   replace hu := EF.mono hu (hG1.trans hG2)
   refine sq <| rg <| ?_
   refine vl (lt rfl rfl) <| nl <| thn <| sq <| ?_
   refine cdP rfl (fun hc => ?_) fun hc => ?_
   ·have hi' : i < es.length := by simp only at hc; omega
    refine sk <| thn <| sq <| bk <| sq <| rg <| ?_
    refine vl (ixm (m := i) underlying35 Ty.s55 rfl hu.1 rfl om om) <| vl (lsF hK Ty.a55 Ty.s55 rfl hu om) <| ?_
    refine al hK Ty.i55 rfl ?_
    intro b10 w hK
    refine soS hK Ty.i55 0 rfl rfl rfl rfl (by rfl) rfl ?_
    intro w hK
    refine nl <| thn <| rg <| vl mv <| vl (lsO hK Ty.a55 Ty.s55 0 rfl rfl rfl) <| ?_
    replace hK : K e w G2 ((b10, row (ec es[i].1 es[i].2.1 es[i].2.2.1 es[i].2.2.2) 55) :: (b26, row (.int .i32 0 :: .int .u32 0 :: wc W2) 69) :: (b4, row [.int .i64 0, .slice none 0 0, .slice none 0 0, .slice none 0 0, .int .i64 0, .slice none 0 0, .slice none 0 0] 31) :: (b6, row (wc W) 31) :: (AI ++ (AS ++ L))) := hK
    replace hK : K _ _ _ ((b26, row (.int .i32 0 :: .int .u32 0 :: wc W2) 69) :: (AI ++ (AS ++ ((b10, row (ec es[i].1 es[i].2.1 es[i].2.2.1 es[i].2.2.2) 55) :: (b6, row (wc W) 31) :: (b4, row [.int .i64 0, .slice none 0 0, .slice none 0 0, .slice none 0 0, .int .i64 0, .slice none 0 0, .slice none 0 0] 31) :: L)))) := hK.reo
    refine cl call26 rfl (doF_c (hG1.trans hG2) (hE.mono (hG1.trans hG2)) hW2 (plE_ok _ (by rw [hwd]; exact newW_ok hok.1 hok.2)) hK) ?_
    rintro _ w ⟨rfl, G3, W3, q3, AI3, AS3, hG3, hW3, hK⟩
    replace hK : K _ _ _ ((b10, row (ec es[i].1 es[i].2.1 es[i].2.2.1 es[i].2.2.2) 55) :: (b26, row (.int .i32 0 :: .int .u32 0 :: wc W3) 69) :: (b4, row [.int .i64 0, .slice none 0 0, .slice none 0 0, .slice none 0 0, .int .i64 0, .slice none 0 0, .slice none 0 0] 31) :: (b6, row (wc W) 31) :: (AI3 ++ (AS3 ++ L))) := hK.reo
    refine nl <| bkn <| thn <| rg <| vl (ad rfl rfl) <| vl (mI rfl) <| nl <| thn <| ?_
    exact ⟨(i + 1, G3, W3, q3, AI3, AS3), ⟨rfl, rfl, rfl, rfl, rfl, rfl, trivial⟩, ⟨hi', hG2.trans hG3, by rw [plE_take hi']; exact hW3, hK.drop1⟩, by simp only; omega⟩
   ·have hi' : i = es.length := by simp only at hc; omega
    subst hi'
    rw [List.take_length] at hW2
    refine ex <| the <| the <| bkh <| thn <| sq <| rg <| ?_
    refine vl mv <| vl (nc rfl) <| vl (fa underlying69 rfl Ty.z31 rfl) <| vl (lsP (u := wc W2) hK Ty.a31 Ty.s31 0 rfl rfl rfl rfl) <| ?_
    refine soS hK Ty.i31 1 rfl rfl rfl rfl (WdO.one hW2.toWdO) rfl ?_
    intro w hK
    refine vl (aB rfl) <| nl <| thn <| rt <| pg2r (rvS hK Ty.a31 Ty.s31 1 rfl rfl rfl) (rvT (v := .bool _) rfl) <| ?_
    have hK2 : K e w G2 ([(b26, row (.int .i32 0 :: .int .u32 0 :: wc W2) 69), (b4, row (wc W2) 31), (b6, row (wc W) 31)] ++ (AI ++ (AS ++ L))) := hK
    obtain ⟨G3, hG3, hW3, hF3, hK3⟩ := hW2.pubF (hG1.trans hG2) hK2.dropL
    exact ⟨G3, W2, _, q2, true, rfl, (hG1.trans hG2).trans hG3, hW3, hF3, ⟨fun _ => hpl, fun _ => rfl⟩, by rw [hwd]; rfl, hK3⟩
end
end Go.Proofs.YtmgggljicpmndaaGreatDoor
