/- Copies of slices, deletions from them. errors.Is over two variables of a package. The package's two error variables, laid as the rows say. Conditions: those that each row states. -/
import Derived.Test.YtmgggljicpmndaaGreatDoorIp
import Derived.WalkKit
import Derived.LaidEql
import Derived.Stop.Asserts
import Derived.RowKitTokens
import Derived.Test.YtmgggljicpmndaaGreatDoorWm2
import Derived.ChangeSame
import Derived.ChangeVars
import Derived.JoinedOf
import Derived.RowKit
import Derived.LaidLaws
import Derived.Stop.ErrReads
import Derived.Below
import Derived.KernelRfl
namespace Go.Proofs.YtmgggljicpmndaaGreatDoor
open Go Go.Ro Tryz
theorem ints_map (xs : List Int) : ints xs = xs.map fun n => .int .i64 n := rfl
theorem ints_take1 (xs : List Int) (i : Nat) : (ints xs).take (i * 1) = ints (xs.take i) := by rw [Nat.mul_one, ints_map, ints_map, List.map_take]
section
variable {e w : World} {G : View} {L A : Own} {v u : Value} {xs : List Int} {k : Int} {i : Nat}
theorem cloneL_c {zs : List Ls} (hK : K e w G L) (hv : SlR 3 (EF lc) G v zs) (hle : zs.length ≤ 1000000) :
  Ret prog 92 #[v] w (fun r w' => ∃ A, OS 3 101 r zs.length (zs.flatMap lc) A ∧ K e w' G (A ++ L)) := by
 refine enter1 (args := [v]) func92 rfl rfl rfl rfl ?_
 refine sq <| rg <| ?_
 refine vl asg <| nl <| thn <| sq <| sq <| rg <| vl mv <| vl (eqSn underlying26 rfl hv.len rfl) <| nl <| thn <| ?_
 refine cdB rfl (fun h => ?_) fun h => ?_
 ·have hx : zs = [] := List.eq_nil_of_length_eq_zero (hv.1.nil_len h)
  subst hx
  refine sq <| rg <| ?_
  refine vl asg <| nl <| thn <| rt <| thr <| p1r (a := _) rfl <| ?_
  exact ⟨[], OS.nil _ _, hK⟩
 ·refine sk <| thn <| sq <| rg <| ?_
  refine bs0 hK underlying26 Ty.i101 ?_
  intro b5 w hK
  refine vl mv <| ?_
  refine apE (c := lc) (A := [(b5, row [] 101)]) (xs := []) (ys := zs) (fun _ => rfl) rfl (fun _ => rfl) hK underlying26 Ty.i101 rfl rfl rfl OS.none rfl hv (by simp; omega) fun v' A' w ho hK => ?_
  refine vl asg <| nl <| thn <| rt <| p1r (a := _) rfl <| ?_
  exact ⟨A', ho, hK⟩
theorem deleteI_c {zs : List It} (hK : K e w G (A ++ L)) (ho : OSx 2 104 v zs.length (zs.flatMap ic) A) (hi : i < zs.length) (hl : zs.length ≤ 1000000) :
  Ret prog 162 #[v, .int .i64 (i : Int), .int .i64 ((i : Int) + 1)] w (fun r w' => ∃ A', OS 2 104 r (zs.take i ++ zs.drop (i + 1)).length ((zs.take i ++ zs.drop (i + 1)).flatMap ic) A' ∧ K e w' G (A' ++ L)) := by
 have hc : ∀ x, (ic x).length = 2 := fun _ => rfl
 obtain ⟨b, cap, cur, rfl, rfl, g1, g2, g3, g4⟩ : ∃ b cap cur, v = .slice (some ⟨b, 0, none⟩) zs.length cap ∧ A = [(b, .cells cur 104 (0, 0))] ∧ zs.length ≤ cap ∧ cap ≤ maxLen ∧ cur.size = cap * 2 ∧ cur.toList.take (zs.length * 2) = zs.flatMap ic := by
  rcases ho with ⟨_, ⟨_, h, _⟩ | h⟩ | ⟨h, _⟩
  ·omega
  ·exact h
  ·omega
 have hs : SlLen (.slice (some ⟨b, 0, none⟩) zs.length cap) zs.length := ⟨_, _, rfl⟩
 have hs2 : SlLen (.slice (some ⟨b, 0, none⟩) (i + (zs.length - (i + 1))) cap) (i + (zs.length - (i + 1))) := ⟨_, _, rfl⟩
 have htl : ((zs.drop (i + 1)).flatMap ic).length = (zs.length - (i + 1)) * 2 := by rw [flat_len hc, List.length_drop]
 have htail : (cur.toList.drop ((i + 1) * 2)).take ((zs.length - (i + 1)) * 2) = (zs.drop (i + 1)).flatMap ic := by
  rw [← flat_drop hc, ← g4, List.drop_take, Nat.sub_mul]
 have h1t : ∀ u ∈ (zs.drop (i + 1)).flatMap ic, one u = true := fun u hu => by
  obtain ⟨y, hy, hu⟩ := List.mem_flatMap.1 hu
  exact List.all_eq_true.1 (show (ic y).all one = true from rfl) u hu
 refine enter1 (args := [.slice (some ⟨b, 0, none⟩) zs.length cap, .int .i64 (i : Int), .int .i64 ((i : Int) + 1)]) func162 rfl rfl rfl rfl ?_
 refine sq <| rg <| ?_
 refine vl asg <| nl <| thn <| sq <| rg <| vl mv <| vl (mI rfl) <| vl (mI rfl) <| vl mv <| vl (ln underlying27 rfl (by assumption)) <| vl (slC (l := i) (h := i + 1) (mx := zs.length) underlying27 Ty.s104 rfl (.inr rfl) (.inr rfl) (.inr ⟨rfl, rfl⟩) (Nat.le_succ _) hi g1) <| nl <| thn <| sq <| sq <| rg <| vl (mI rfl) <| vl (mI rfl) <| vl (eq rfl rfl) <| nl <| thn <| ?_
 refine cdP rfl (fun h0 => ?_) fun h0 => ?_
 ·exfalso; omega
 ·refine sk <| thn <| sq <| rg <| ?_
  refine vl mv <| vl (ln underlying27 rfl (by assumption)) <| vl (aI rfl) <| nl <| thn <| sq <| ?_
  refine rgs (fun w => K e w G L) (fun w => K _ w _ _) [U,U,U,U,U,U,U,U] 8 Ty.mixed rfl rfl (hK.drawn _) ?_
  intro w hK
  have hS : (fun w => K e w G L) w := K.sl hK
  refine xt (i := 0) rfl kr rfl rfl (fun w hK => mv) hS <| xt (i := 1) rfl kr rfl rfl (fun w hK => (mI rfl)) hS <| xt (i := 2) rfl kr rfl rfl (fun w hK => (slHiC (h := i) underlying27 Ty.s104 rfl rfl om)) hS <| xt (i := 3) rfl kr rfl rfl (fun w hK => mv) hS <| xt (i := 4) rfl kr rfl rfl (fun w hK => (mI rfl)) hS <| xt (i := 5) rfl kr rfl rfl (fun w hK => (slLoD (l := i + 1) underlying27 Ty.s104 rfl rfl om g1)) hS <| ?_
  refine xe (i := 6) kr rfl rfl ?_
  refine apRm (k := zs.length - (i + 1)) (cs := (zs.drop (i + 1)).flatMap ic) hK underlying27 Ty.i104 rfl rfl htl ?hcells om (by rw [htl, g3]; omega) h1t fun w hK => ?_
  case hcells =>
   by_cases hcc : cap = i + 1
   ·intro j u hj
    have : zs.length - (i + 1) = 0 := by omega
    rw [this, Nat.zero_mul] at htl
    rw [List.eq_nil_of_length_eq_zero htl] at hj; cases hj
   ·rw [if_neg hcc]; exact partB (hK.own b _ (List.mem_cons_self ..)) htail
  refine xnk (K.sl hK) fun hS => ?_
  refine xt (i := 7) rfl kr rfl rfl (fun w hK => asg) hS <| xd kr <| thn <| sq <| rg <| vl mv <| vl mv <| vl (ln underlying27 rfl (by assumption)) <| vl (mI rfl) <| vl (slLHC (l := i + (zs.length - (i + 1))) (h := zs.length) underlying27 Ty.s104 rfl rfl rfl om g1 om) <| ?_
  refine clK (cur := (cur.toList.take (i * 2) ++ (zs.drop (i + 1)).flatMap ic ++ cur.toList.drop (i * 2 + ((zs.drop (i + 1)).flatMap ic).length)).toArray) hK underlying27 Ty.i104 rfl rfl rfl (by rw [size_wr (by rw [htl, g3]; omega), g3]; omega) fun w hK => ?_
  refine nl <| thn <| sq <| rg <| vl mv <| vl asg <| nl <| thn <| rt <| p1r (a := _) rfl <| ?_
  exact ⟨[(b, _)], delR hc hi g1 g2 g3 g4 (by omega) (by rw [Array.length_toList, size_zeroCells]; rfl), hK⟩
set_option maxHeartbeats 1000000 in
theorem deleteFunc_c {F : FuncId} {cap : List Value} {q : Int → Bool} (hf : ∀ args w, (callFunc F args).run prog w = .ok (.enter F args) w) (hK : K e w G (A ++ L)) (ho : OSx 1 3 v xs.length (ints xs) A) (hl : xs.length ≤ 1000000)
  (hp : ∀ (G : View) x w, K e w G L → Ret prog F ([Value.int .i64 x] ++ cap).toArray w (fun r w' => r = .bool (q x) ∧ K e w' G L)) :
  Ret prog 163 #[v, .func (.func F) #[] cap.toArray] w (fun r w' => ∃ A', OSx 1 3 r (xs.filter fun x => !q x).length (ints (xs.filter fun x => !q x)) A' ∧ K e w' G (A' ++ L)) := by
 refine enter1 (args := [v, .func (.func F) #[] cap.toArray]) func163 rfl rfl rfl rfl ?_
 refine sq <| rg <| ?_
 refine vl asg <| nl <| thn <| sq <| rg <| vl mv <| vl mv <| ?_
 refine cl call176 rfl (Ret.own hK (fun hK' => indexFunc_c hf hK' ho.intsV (hp _))) ?_
 rintro _ w ⟨⟨m, rfl, hm⟩, hK⟩
 refine vl (aI rfl) <| nl <| thn <| sq <| sq <| rg <| vl (mI rfl) <| vl (eq rfl rfl) <| nl <| thn <| ?_
 refine cdP rfl (fun h0 => ?_) fun h0 => ?_
 ·have hno : ∀ x ∈ xs, q x = false := by
   rcases hm with ⟨_, h⟩ | ⟨k, rfl, _⟩
   ·exact h
   ·omega
  have hfl : (xs.filter fun x => !q x) = xs := List.filter_eq_self.2 fun x hx => by rw [hno x hx]; rfl
  refine sq <| rg <| ?_
  refine vl mv <| vl asg <| nl <| thn <| rt <| thr <| p1r (a := _) rfl <| ?_
  exact ⟨A, by rw [hfl]; exact ho, hK⟩
 ·obtain ⟨k, rfl, hk, hqk, hbe⟩ : ∃ k : Nat, m = k ∧ ∃ h : k < xs.length, q xs[k] = true ∧ ∀ x ∈ xs.take k, q x = false := by
   rcases hm with ⟨h, _⟩ | h
   ·exact absurd h h0
   ·exact h
  obtain ⟨b, cp, cur, rfl, rfl, g1, g2, g3, g4⟩ : ∃ b cp cur, v = .slice (some ⟨b, 0, none⟩) xs.length cp ∧ A = [(b, .cells cur 3 (0, 0))] ∧ xs.length ≤ cp ∧ cp ≤ maxLen ∧ cur.size = cp * 1 ∧ cur.toList.take (xs.length * 1) = ints xs := by
   rcases ho with ⟨_, ⟨_, h, _⟩ | h⟩ | ⟨h, _⟩
   ·omega
   ·exact h
   ·omega
  have hos : OS 1 3 (.slice (some ⟨b, 0, none⟩) xs.length cp) xs.length (ints xs) [(b, .cells cur 3 (0, 0))] := ⟨by simp, .inr ⟨b, cp, cur, rfl, rfl, g1, g2, g3, g4⟩⟩
  have hfk : (xs.take k).filter (fun x => !q x) = xs.take k := List.filter_eq_self.2 fun x hx => by rw [hbe x hx]; rfl
  have hk1 : ((xs.take (k + 1)).filter fun x => !q x) = xs.take k := by rw [(flt_skip (ys := xs) hk rfl hqk).1, hfk]
  have hs : SlLen (.slice (some ⟨b, 0, none⟩) xs.length cp) xs.length := ⟨_, _, rfl⟩
  clear g3 g4 ho
  refine sk <| thn <| sq <| sq <| rg <| ?_
  refine vl (mI rfl) <| vl (ad rfl rfl) <| vl (aI rfl) <| nl <| thn <| bk <| ?_
  refine lp (σ := Nat × Nat × List Int × Own) (fun s => [(0, .slice (some ⟨b, 0, none⟩) xs.length cp), (1, .func (.func F) #[] cap.toArray), (5, .int .i64 (s.1 : Int)), (6, .int .i64 (s.2.1 : Int))]) (fun s w => s.1 < s.2.1 ∧ s.2.1 ≤ xs.length ∧ s.2.2.1.length = xs.length ∧ s.1 = ((xs.take s.2.1).filter fun x => !q x).length ∧ s.2.2.1.take s.1 = ((xs.take s.2.1).filter fun x => !q x) ∧ s.2.2.1.drop s.2.1 = xs.drop s.2.1 ∧ OS 1 3 (.slice (some ⟨b, 0, none⟩) xs.length cp) xs.length (ints s.2.2.1) s.2.2.2 ∧ K e w G (s.2.2.2 ++ L)) (fun s => xs.length - s.2.1) (k, k + 1, xs, [_]) ⟨rfl, rfl, rfl, rfl, trivial⟩ ⟨Nat.lt_succ_self _, hk, rfl, by simp only; rw [hk1, List.length_take]; omega, by simp only; rw [hk1], rfl, hos, hK⟩ ?_
  rintro ⟨i, j, ys, A⟩ g w ⟨hij, hj, hyl, hi, hy1, hy2, ho, hK⟩
  simp only at hij hj hyl hi hy1 hy2 ho hK
  refine sq <| sq <| rg <| ?_
  refine vl (mI rfl) <| vl mv <| vl (ln underlying22 rfl (by assumption)) <| vl (lt rfl rfl) <| nl <| thn <| ?_
  refine cdP rfl (fun hc => ?_) fun hc => ?_
  ·have hj' : j < xs.length := by simp only at hc; omega
   obtain ⟨x, hxe⟩ : ∃ x, xs[j]'hj' = x := ⟨_, rfl⟩
   have hyj : ys[j]? = some x := (drop_at hy2 hj').trans (congrArg some hxe)
   refine sk <| thn <| sq <| bk <| sq <| rg <| ?_
   refine vl mv <| vl (mI rfl) <| vl (ixn1 underlying22 Ty.s3 rfl ho.slw rfl hj') <| vl (ldC Ty.o3 rfl (ho.cell hK (by rw [ints_map, List.getElem?_map, hyj]; rfl))) <| vl (aI rfl) <| nl <| thn <| sq <| rg <| vl mv <| vl (mI rfl) <| ?_
   have hcl := Ret.own (R := fun r => r = .bool (q x)) hK (fun hK' => hp _ x _ hK')
   refine cf (cap := cap) (hf) rfl rfl (hcl) ?_
   rintro _ w ⟨rfl, hK⟩
   refine vl (ntB rfl) <| nl <| thn <| ?_
   refine cdB rfl (fun hq => ?_) fun hq => ?_
   ·have hst := flt_step hj' hyl hi hy1 hy2 (by rw [hxe]; simpa using hq)
    rw [hxe] at hst
    refine sq <| rg <| ?_
    refine vl mv <| vl (mI rfl) <| vl (mI rfl) <| vl (ixn1 underlying22 Ty.s3 rfl ho.slw rfl om) <| ?_
    refine osSet (i := i) (u := .int .i64 x) hK ho om Ty.i3 rfl rfl rfl rfl fun A' w ho hK => ?_
    rw [ints_set] at ho
    refine nl <| thn <| rg <| vl (mI rfl) <| vl (ad rfl rfl) <| vl (aI rfl) <| nl <| bkn <| thn <| rg <| vl (mI rfl) <| vl (ad rfl rfl) <| vl (aI rfl) <| nl <| thn <| ?_
    exact ⟨(i + 1, j + 1, ys.set i x, A'), ⟨rfl, rfl, rfl, rfl, trivial⟩, ⟨by simp only; omega, hj', by simp only; rw [List.length_set]; exact hyl, hst.2.1, hst.2.2.1, hst.2.2.2, ho, hK⟩, by simp only; omega⟩
   ·have hst := flt_skip (q := q) hj' hy2 (by rw [hxe]; simpa using hq)
    refine sk <| bkn <| thn <| rg <| ?_
    refine vl (mI rfl) <| vl (ad rfl rfl) <| vl (aI rfl) <| nl <| thn <| ?_
    exact ⟨(i, j + 1, ys, A), ⟨rfl, rfl, rfl, rfl, trivial⟩, ⟨by simp only; omega, hj', hyl, by simp only; rw [hst.1]; exact hi, by simp only; rw [hst.1]; exact hy1, hst.2, ho, hK⟩, by simp only; omega⟩
  ·have hj' : j = xs.length := by simp only at hc; omega
   subst hj'
   rw [List.take_length] at hi hy1
   obtain ⟨b', cap', cu, hv', rfl, k1, k2, k3, k4⟩ := ho.2.resolve_left (fun h => by have := h.2.1; omega)
   cases hv'
   have hil : i ≤ xs.length := by omega
   refine ex <| the <| the <| bkh <| thn <| sq <| rg <| ?_
   refine vl mv <| vl (mI rfl) <| ?_
   refine vl (slLoC (l := i) underlying22 Ty.s3 rfl rfl hil k1 om) <| ?_
   refine clK hK underlying22 Ty.i3 rfl rfl rfl (by rw [k3, Nat.mul_one, Nat.mul_one, Nat.mul_one]; omega) fun w hK => ?_
   refine nl <| thn <| sq <| rg <| vl mv <| vl (mI rfl) <| vl (slHiC (h := i) underlying22 Ty.s3 rfl rfl om) <| vl asg <| nl <| thn <| rt <| p1r (a := _) rfl <| ?_
   refine ⟨[(b, _)], .inl ?_, hK⟩
   have := keepR (t := 3) (b := b) (Z := (Builtin.zeroCells (Value.int .i64 0).cells (xs.length - i)).toList) hil k1 k2 k3 k4 (by rw [Array.length_toList, size_zeroCells]; rfl)
   rw [ints_take1, hy1] at this
   rw [← hi]; exact this
end
open Go Go.RowKit Go.Extern.Stop Go.Stop Go.Extern
def cmpE : Array Value → Sem Value := Extern.ReflectliteType.method fun t => do Go.Extern.Rtype.noPackHeld "Comparable" t; pure (.bool (← typeInfo t).comparable)
theorem Er.isTypeOf (v : Value) (w : World) : (Extern.ReflectliteType.typeOf #[.iface 228 v]).run Tryz.prog w = .ok (.iface 213 (.agg #[.pointer (some ⟨2, 228, none⟩)])) w := by kernel_rfl
theorem Er.isComparable (w : World) : (cmpE #[.agg #[.pointer (some ⟨2, 228, none⟩)]]).run Tryz.prog w = .ok (.bool true) w := by kernel_rfl
theorem Er.isMethodComparable (v : Value) (w : World) : (Go.method 364 213 v "Comparable").run Tryz.prog w = .ok (254, v) w := by kernel_rfl
theorem Er.isComp : (Tryz.prog.info? 228).map (·.comparable) = some true := by kernel_rfl
theorem Er.isSize : (Tryz.prog.info? 253).map (·.size) = some 1 := by kernel_rfl
/-! ### CLOSED FACTS ON THE METHOD SETS: what errors.is's assertions find -/
theorem Er.noIsE (v : Value) (xT : TypeId) (w : World) : (Instr.typeAssert (.iface 228 v) xT 215 true).run Tryz.prog w = .ok (.tuple #[.nilIface, .bool false]) w := run_typeAssert_lacksB Tryz.underlying215 (by kernel_rfl) (by kernel_rfl) v xT w
theorem Er.noUnwrapE (v : Value) (xT : TypeId) (w : World) : (Instr.typeAssert (.iface 228 v) xT 218 true).run Tryz.prog w = .ok (.tuple #[.nilIface, .bool false]) w := run_typeAssert_lacksB Tryz.underlying218 (by kernel_rfl) (by kernel_rfl) v xT w
theorem Er.noUnwrapsE (v : Value) (xT : TypeId) (w : World) : (Instr.typeAssert (.iface 228 v) xT 220 true).run Tryz.prog w = .ok (.tuple #[.nilIface, .bool false]) w := run_typeAssert_lacksB Tryz.underlying220 (by kernel_rfl) (by kernel_rfl) v xT w
set_option maxRecDepth 100000 in
theorem is_same (a : Addr) (w : World) :
  Calls Tryz.prog 194 #[.iface 228 (.pointer (some a)), .iface 228 (.pointer (some a))] w fun e w' => e = .returned (.bool true) ∧ w' = w := by
 obtain ⟨i, hi, hcmp⟩ := Option.map_eq_some_iff.1 Er.isComp
 obtain ⟨j, hj, hjs⟩ := Option.map_eq_some_iff.1 Er.isSize
 have h8 := @run_callFunc_extern Tryz.prog 219 _ Extern.ReflectliteType.typeOf Tryz.func219 (by kernel_rfl) (by kernel_rfl) (by kernel_rfl) (by kernel_rfl)
 have h32 := @run_callFunc_extern Tryz.prog 254 _ cmpE Tryz.func254 (by kernel_rfl) (by kernel_rfl) (by kernel_rfl) (by kernel_rfl)
 have tT := Er.isTypeOf
 have cT := Er.isComparable
 have mR := Er.isMethodComparable
 have heq := run_eql_iface_ptr_same (P := Tryz.prog) w a Tryz.underlying160 Tryz.underlying228 hi hcmp hj
 go_enter Tryz.func194, Tryz.ntmps194
 go_wp2
 refine wp_loop_rounds 1 ?_
 rw [rounds_succ]
 go_wp2
 go_ret
 exact ⟨rfl, rfl⟩
set_option maxRecDepth 100000 in
theorem is_nil (b : Addr) (w : World) :
  Calls Tryz.prog 194 #[.nilIface, .iface 228 (.pointer (some b))] w fun e w' => e = .returned (.bool false) ∧ w' = w := by
 have hn := run_eql_iface_nil_left (P := Tryz.prog) w 228 (.pointer (some b)) Tryz.underlying160
 go_enter Tryz.func194, Tryz.ntmps194
 go_wp2
 go_ret
 exact ⟨rfl, rfl⟩
set_option maxRecDepth 100000 in
theorem is_other (a b : Addr) (ca cb : Array Value) (ta tb : TypeId) (w : World) (hne : a ≠ b) (ha : w.heap[a.block]? = some (.cells ca ta (0, 0))) (hb : w.heap[b.block]? = some (.cells cb tb (0, 0))) :
  Calls Tryz.prog 194 #[.iface 228 (.pointer (some a)), .iface 228 (.pointer (some b))] w fun e w' => e = .returned (.bool false) ∧ w' = w := by
 obtain ⟨i, hi, hcmp⟩ := Option.map_eq_some_iff.1 Er.isComp
 obtain ⟨j, hj, hjs⟩ := Option.map_eq_some_iff.1 Er.isSize
 have h8 := @run_callFunc_extern Tryz.prog 219 _ Extern.ReflectliteType.typeOf Tryz.func219 (by kernel_rfl) (by kernel_rfl) (by kernel_rfl) (by kernel_rfl)
 have h32 := @run_callFunc_extern Tryz.prog 254 _ cmpE Tryz.func254 (by kernel_rfl) (by kernel_rfl) (by kernel_rfl) (by kernel_rfl)
 have tT := Er.isTypeOf
 have cT := Er.isComparable
 have mR := Er.isMethodComparable
 have nE := Er.noIsE
 have uE := Er.noUnwrapE
 have vE := Er.noUnwrapsE
 have heq := run_eql_iface_ptr_other (P := Tryz.prog) w Tryz.underlying160 Tryz.underlying228 hi hcmp hj (by rw [hjs]; decide) hne ha hb
 go_enter Tryz.func194, Tryz.ntmps194
 go_wp2
 refine wp_loop_rounds 1 ?_
 rw [rounds_succ]
 go_wp2
 go_ret
 exact ⟨rfl, rfl⟩
open Go Go.ChangeShapes Go.WideShapes Go.RowKit Go.Ro
def ldL : List (String × DataW Unit) := [("loop.example/ringoverlay/impl.errArgs", .iface "*errors.errorString" (.ptr (.agg [.lit (.string [97, 114, 103, 117, 109, 101, 110, 116, 115])]))), ("loop.example/ringoverlay/impl.errRefused", .iface "*errors.errorString" (.ptr (.agg [.lit (.string [114, 101, 102, 117, 115, 101, 100])])))]
theorem ld_g0 : Tryz.prog.globalNamed "loop.example/ringoverlay/impl.errArgs" = some 0 := by kernel_rfl
theorem ld_g1 : Tryz.prog.globalNamed "loop.example/ringoverlay/impl.errRefused" = some 1 := by kernel_rfl
theorem ld_t0 : (Tryz.prog.globals[0]?).map (·.type) = some 160 := by kernel_rfl
theorem ld_t1 : (Tryz.prog.globals[1]?).map (·.type) = some 160 := by kernel_rfl
theorem ld_cE : Tryz.prog.cellsOf 253 = 1 := by kernel_rfl
theorem ld_cS : Tryz.prog.cellsOf 9 = 1 := by kernel_rfl
theorem ld_star : "*" ++ "errors.errorString" = "*errors.errorString" := by decide
theorem ld_row (u : TypeId) (h : Tryz.prog.typeName? 3 u = some "*errors.errorString") : u = 228 :=
 typeName_ptr_named (nm := "errors.errorString") (by rw [ld_star]; kernel_rfl) kr (by decide) u (by rw [ld_star]; exact h)
set_option maxRecDepth 100000 in
theorem ld_of {W : World} (h : laidMet Tryz.prog ldL W) :
  ∃ (a0 a1 : Addr), W.var? Tryz.prog "loop.example/ringoverlay/impl.errArgs" = some #[.iface 228 (.pointer (some a0))] ∧ W.var? Tryz.prog "loop.example/ringoverlay/impl.errRefused" = some #[.iface 228 (.pointer (some a1))] ∧ ErrS 228 0 1 (hvw W) a0 a1 := by
 obtain ⟨ps, ⟨g0, t0, cs0, f0, p0, q0, hg0, ht0, hv0, hd0, ⟨g1, t1, cs1, f1, p1, q1, hg1, ht1, hv1, hd1, hq1, e1⟩, e0⟩, hnd, hrows⟩ := h
 obtain rfl := Option.some.inj (ld_g0.symm.trans hg0)
 obtain rfl := Option.some.inj (ld_g1.symm.trans hg1)
 obtain rfl := Option.some.inj (ld_t0.symm.trans ht0)
 obtain rfl := Option.some.inj (ld_t1.symm.trans ht1)
 have hq1' : q1 = [] := hq1
 subst hq1'
 subst e1
 subst e0
 obtain ⟨l0⟩ := cs0
 obtain ⟨l1⟩ := cs1
 have ok0 : ∀ u v, l0 = [.iface u v] → Value.okWide Tryz.prog W .any 0 u v := fun u v e => by
  subst e
  exact (hrows 0 0 (by simp [MemPlace.row])).2 u v (by simpa using World.var?_cell hg0 hv0 0)
 have ok1 : ∀ u v, l1 = [.iface u v] → Value.okWide Tryz.prog W .any 0 u v := fun u v e => by
  subst e
  exact (hrows 1 0 (by simp [MemPlace.row])).2 u v (by simpa using World.var?_cell hg1 hv1 0)
 obtain ⟨a0, s0, rfl, hc0, hs0, hz0, rfl⟩ := errorString_of_trod Tryz.underlying160 ld_row Tryz.underlying228 Tryz.underlying253 rfl rfl Tryz.underlying9 ld_cE ld_cS hd0 ok0
 obtain ⟨a1, s1, rfl, hc1, hs1, hz1, rfl⟩ := errorString_of_trod Tryz.underlying160 ld_row Tryz.underlying228 Tryz.underlying253 rfl rfl Tryz.underlying9 ld_cE ld_cS hd1 ok1
 obtain ⟨c0, t0, hb0⟩ := (hrows a0.block a0.off (by simp [MemPlace.row])).1
 obtain ⟨c1, t1, hb1⟩ := (hrows a1.block a1.off (by simp [MemPlace.row])).1
 have k0 : W.cell? ⟨0, 0, none⟩ = some (.iface 228 (.pointer (some a0))) := by simpa using World.var?_cell ld_g0 hv0 0
 have k1 : W.cell? ⟨1, 0, none⟩ = some (.iface 228 (.pointer (some a1))) := by simpa using World.var?_cell ld_g1 hv1 0
 have kc : ∀ (b : Nat) (v : Value), W.cell? ⟨b, 0, none⟩ = some v → cellV (hvw W) ⟨b, 0, none⟩ = some v := by
  intro b v hb
  unfold World.cell? at hb
  unfold cellV hvw
  exact hb
 refine ⟨a0, a1, hv0, hv1, kc 0 _ k0, kc 1 _ k1, ?_, ⟨c0, t0, hb0⟩, ⟨c1, t1, hb1⟩⟩
 rintro rfl
 simp [MemPlace.row] at hnd
theorem ld_var {W W' : World} {x : Array Value} {s : String} (h : W.var? Tryz.prog s = some x) (hb : Below W.heap.size W W') : W'.var? Tryz.prog s = some x := by
 unfold World.var? at h ⊢
 cases hg : Tryz.prog.globalNamed s with
 | none => simp [hg] at h
 | some g =>
  simp only [hg, Option.bind_some] at h ⊢
  have hlt : g < W.heap.size := by
   rcases Nat.lt_or_ge g W.heap.size with h' | h'
   ·exact h'
   ·simp [Array.getElem?_eq_none h'] at h
  rw [hb.block g hlt]; exact h
theorem ld_read {H : Type} (enc : TypeId × Value → H) {W : World} {x0 x1 : Value} (h0 : W.var? Tryz.prog "loop.example/ringoverlay/impl.errArgs" = some #[x0]) (h1 : W.var? Tryz.prog "loop.example/ringoverlay/impl.errRefused" = some #[x1]) (i0 : IsIface x0) (i1 : IsIface x1) (sp : Nat → Bool) :
  DataW.TrodVars enc Tryz.prog W sp ["loop.example/ringoverlay/impl.errArgs", "loop.example/ringoverlay/impl.errRefused"] [tok enc x0, tok enc x1] [.cell 0 0, .cell 1 0] :=
 ⟨0, 160, #[x0], 1, [], [.cell 1 0], ld_g0, ld_t0, h0, trod_held Tryz.underlying160 i0 0, ⟨1, 160, #[x1], 1, [], [], ld_g1, ld_t1, h1, trod_held Tryz.underlying160 i1 0, rfl, rfl⟩, rfl⟩
noncomputable def ldLow : Nat := (World.holding Tryz.prog default ⟨#[], #[], []⟩).heap.size
noncomputable def ldW (os : Os) : World :=
 let w0 := World.holding Tryz.prog os ⟨#[.cells #[.string { data := #[97, 114, 103, 117, 109, 101, 110, 116, 115] }] 253, .cells #[.string { data := #[114, 101, 102, 117, 115, 101, 100] }] 253], #[], []⟩
 { w0 with heap := (w0.heap.modify 0 fun
   | .cells _ t frozen => .cells #[.iface 228 (.pointer (some ⟨ldLow, 0, none⟩))] t frozen
   | o => o).modify 1 fun
   | .cells _ t frozen => .cells #[.iface 228 (.pointer (some ⟨ldLow + 1, 0, none⟩))] t frozen
   | o => o }
theorem ldW_met (os : Os) (args : Array Value) : laidMet Tryz.prog ldL ((ldW os).forCall (fun _ _ => 0) ⟨#[], args, []⟩).memory :=
 laidMet_of_run (ps := [.cell 0 0, .cell ldLow 0, .cell 1 0, .cell (ldLow + 1) 0]) 8 kr kr kr
end Go.Proofs.YtmgggljicpmndaaGreatDoor
