/- The library's lock, under this program's numbers. The program's guarded events. The program's events of worlds. The package's two error variables, laid as the rows say. Laws on one event: what they return. More laws on one event: what they return. Laws on one event, key by key: what they return. Conditions: those that each row states. -/
import Derived.Test.YtmfolinemnlnbaaGreatDoorWp
import Derived.Test.YtmfolinemnlnbaaGreatDoorDr
import Derived.Conc.MuLone
import Derived.KernelRfl
import Derived.Test.YtmfolinemnlnbaaGreatDoorEr
import Derived.Test.YtmfolinemnlnbaaGreatDoorWm2
import Derived.ChangeSame
import Derived.ChangeVars
import Derived.JoinedOf
import Derived.RowKit
import Derived.RowKitTokens
import Derived.LaidLaws
import Derived.Stop.ErrReads
import Derived.Below
import Derived.Test.YtmfolinemnlnbaaGreatDoorWd5
import Derived.Test.YtmfolinemnlnbaaGreatDoorWh
import Derived.Test.YtmfolinemnlnbaaGreatDoorWe
import Derived.Test.YtmfolinemnlnbaaGreatDoorWo
import Derived.Test.YtmfolinemnlnbaaGreatDoorOx
import Derived.Test.YtmfolinemnlnbaaGreatDoorSn
import Derived.Test.YtmfolinemnlnbaaGreatDoorCf
namespace Go.Proofs.YtmfolinemnlnbaaGreatDoor
open Go Go.Ro Tryz
abbrev muL : Go.Conc.Locks.MuLink := { lock := 84, unlock := 85, ilock := 119, iunlock := 120, lockSlow := 157, unlockSlow := 160, disable := 153, enable := 155, acquire := 156, relMerge := 158, cas32 := 154, add32 := 159, tMutex := 71, tIMutex := 69, tPMutex := 122, tPIMutex := 141, tPI32 := 143, tUP := 145, tNoCopy := 66, tU32 := 67 }
theorem muLib : Go.Conc.Locks.MuLib prog muL :=
 ⟨func84, func85, func119, func120, func153, func155, func156, func158, func154, func159,
  underlying69, fun w => by kernel_rfl, fun w => by kernel_rfl, fun w => by kernel_rfl, fun w => by kernel_rfl,
  underlying71, fun w => by kernel_rfl, fun w => by kernel_rfl, fun w => by kernel_rfl, fun w => by kernel_rfl,
  underlying122, fun w => by kernel_rfl, fun w => by kernel_rfl, fun w => by kernel_rfl, fun w => by kernel_rfl,
  underlying141, fun w => by kernel_rfl, fun w => by kernel_rfl, fun w => by kernel_rfl, fun w => by kernel_rfl,
  underlying143, fun w => by kernel_rfl, fun w => by kernel_rfl, fun w => by kernel_rfl, fun w => by kernel_rfl,
  underlying145, fun w => by kernel_rfl, fun w => by kernel_rfl, fun w => by kernel_rfl, fun w => by kernel_rfl,
  underlying66, fun w => by kernel_rfl, fun w => by kernel_rfl, fun w => by kernel_rfl, fun w => by kernel_rfl,
  underlying21, fun w => by kernel_rfl, fun w => by kernel_rfl, fun w => by kernel_rfl, fun w => by kernel_rfl,
  by kernel_rfl⟩
open Go Go.Ro Go.MuLone Tryz
section
variable {e w : World} {G : View} {L A AI AS : Own} {v u m0 m1 : Value} {rs qs : List Rn} {W W' : Wv} {wd wd' : Wd} {a b c k kd : Int} {gk : Nat} {a0 a1 : Addr} {l : List Value}
theorem lockR (hK : K e w G ((gk, row (.int .i32 0 :: l) 73) :: L)) : Ret prog 84 #[.pointer (some ⟨gk, 0, none⟩)] w (fun r w' => r = .tuple #[] ∧ K e w' G ((gk, row (.int .i32 1 :: l) 73) :: L)) := by
 have hb := hK.own gk _ (List.mem_cons_self ..)
 refine (lock_free muLib ⟨gk, 0, none⟩ w (by simp [World.cell?, hb, row]) (by simp [World.frozen?, hb, row])).mono ?_
 rintro e w' ⟨rfl, rfl⟩
 exact ⟨_, rfl, rfl, K.set0 hK⟩
theorem do_c (hE : ErrS 216 0 1 G a0 a1) (h : WdO G lc 54 3 W wd rs AI AS) (hok : WdOk wd) (hK : K e w G ((gk, row (.int .i32 0 :: m1 :: wc W) 73) :: (AI ++ (AS ++ L)))) :
  Ret prog 35 #[.pointer (some ⟨gk, 0, none⟩), .agg (ec kd a b c).toArray] w (fun r w' => r = .tuple #[] ∧ ∃ G' W' rs' AI' AS', VLe G G' ∧ WdO G' lc 54 3 W' (doW wd kd a b c) rs' AI' AS' ∧ K e w' G' ((gk, row (.int .i32 0 :: m1 :: wc W') 73) :: (AI' ++ (AS' ++ L)))) := by
 refine enterDf (n := Tryz.f35.ntmps) (args := [.pointer (some ⟨gk, 0, none⟩), .agg (ec kd a b c).toArray]) func35 rfl rfl rfl ?_
 refine sqA (rg ?_)
 refine bx hK rfl rfl ?_
 intro b3 w hK
 refine nl ⟨rfl, ?_⟩
 refine sqA (rg ?_)
 refine vl mv <| vl (nc rfl) <| vl (fa underlying73 rfl Ty.z71 rfl) <| ?_
 refine cl call84 rfl (lockR hK.swp) ?_
 rintro _ w ⟨rfl, hK⟩
 refine nl ⟨rfl, ?_⟩
 refine wp_seq (wp_region_lit ?_)
 refine valA rfl mv <| valA rfl (nc rfl) <| valA rfl (fa underlying73 rfl Ty.z71 rfl) <| dfA rfl ?_
 replace hK : K e w G ((b3, row (ec kd a b c) 32) :: (gk, row (.int .i32 1 :: m1 :: wc W) 73) :: (AI ++ (AS ++ L))) := hK.swp
 refine rgxD (Q3 := fun _ _ w => ∃ G' W' rs' AI' AS', VLe G G' ∧ WdO G' lc 54 3 W' (doW wd kd a b c) rs' AI' AS' ∧ K e w G' ((gk, row (.int .i32 1 :: m1 :: wc W') 73) :: (AI' ++ (AS' ++ ((b3, row (ec kd a b c) 32) :: L))))) (fun w => K e w G ((b3, row (ec kd a b c) 32) :: L)) [U,U,U,U,U] Ty.mixed rfl rfl (C := fun w => K e w G ((b3, row (ec kd a b c) 32) :: (gk, row (.int .i32 1 :: m1 :: wc W) 73) :: (AI ++ (AS ++ L)))) (hK.drawn _) ?_ ?_
 ·intro w hK
  have hS : (fun w => K e w G ((b3, row (ec kd a b c) 32) :: L)) w := K.sl hK
  refine xt (i := 0) rfl kr rfl rfl (fun w hK => mv) hS <| ?_
  refine xt (i := 1) rfl kr rfl rfl (fun w hK => (nc rfl)) hS <| ?_
  refine xt (i := 2) rfl kr rfl rfl (fun w hK => (fa underlying73 rfl Ty.z30 rfl)) hS <| ?_
  refine xt (i := 3) rfl kr rfl rfl (fun w hK => (lsO hK Ty.a32 Ty.s32 0 rfl rfl rfl)) hS <| ?_
  refine xe (i := 4) kr rfl rfl ?_
  have hK1 : K e w G ((gk, row (.int .i32 1 :: m1 :: wc W) 73) :: (AI ++ (AS ++ ((b3, row (ec kd a b c) 32) :: L)))) := hK.reo
  refine cl call86 rfl (apply_c hE h hok hK1) ?_
  rintro _ w ⟨rfl, G1, W1, q1, AI1, AS1, hG1, hW1, hK⟩
  have hS2 : K e w G ((b3, row (ec kd a b c) 32) :: L) := K.vle (K.sl hK) hG1
  refine xn (fun w => K e w G ((b3, row (ec kd a b c) 32) :: L)) hS2 (fun _ h => h) ?_
  exact xd kr ⟨G1, W1, q1, AI1, AS1, hG1, hW1, hK⟩
 ·rintro g w ⟨G1, W1, q1, AI1, AS1, hG1, hW1, hK⟩
  have hb := hK.own gk _ (List.mem_cons_self ..)
  refine leaves_cons (f := 85) (args := #[.pointer (some ⟨gk, 0, none⟩)]) (by simp) (call85 _ _) ?_
  refine (unlock_deferred muLib ⟨gk, 0, none⟩ .returning w (by simp [World.cell?, hb, row]) (by simp [World.frozen?, hb, row])).mono ?_
  rintro e u' w' ⟨rfl, rfl, rfl⟩
  exact ⟨_, results_none rfl _ _ _, _, rfl, rfl, G1, W1, q1, AI1, AS1, hG1, hW1, outB (K.set0 hK)⟩
end
open Go Go.Ro Tryz
section
variable {e w : World} {G : View} {L A AI AS : Own} {v u m0 m1 : Value} {rs qs : List Rn} {W W' : Wv} {wd wd' : Wd} {a b c k kd : Int} {gk : Nat} {a0 a1 : Addr} {l : List Value}
set_option maxHeartbeats 1000000 in
theorem implWorldDo_c (hE : ErrS 216 0 1 G a0 a1) (hK : K e w G L) (hW : WdS G lc W wd rs) (hzl : wd.items.length ≤ 1000000) :
  Ret prog 10 #[.agg (wc W).toArray, .agg (ec kd a b c).toArray] w (fun r w' => ∃ G' W' rs', VLe G G' ∧ r = .agg (wc W').toArray ∧ WdS G' lc W' (wdF wd kd a b c) rs' ∧ K e w' G' L) := by
 refine enterG1 (args := [.agg (wc W).toArray, .agg (ec kd a b c).toArray]) func10 rfl rfl rfl rfl ?_
 refine sq <| rg <| ?_
 refine bx hK rfl rfl ?_
 intro b2 w hK
 refine bx hK rfl rfl ?_
 intro b3 w hK
 refine al hK Ty.i30 rfl ?_
 intro b4 w hK
 refine nl <| thn <| sq <| sq <| rg <| vl (lsO hK Ty.a30 Ty.s30 2 rfl rfl rfl) <| ?_
 refine cl call23 rfl (implWorldValid_c hK hW om) ?_
 rintro _ w ⟨rfl, hK⟩
 refine vl (ntB rfl) <| nl <| thn <| ?_
 refine cdB rfl (fun h1 => ?_) fun h1 => ?_
 ·have h1' := not_dec (Eq.mp (Bool.not_eq_true' _) h1)
  refine sq <| rg <| ?_
  refine vl (bd [] Ty.p30 Ty.i30 rfl trivial rfl) <| ?_
  refine soS hK Ty.i30 0 rfl rfl rfl rfl (by rfl) rfl ?_
  intro w hK
  refine nl <| thn <| rt <| thr <| pg1r (rvS hK Ty.a30 Ty.s30 0 rfl rfl rfl) <| ?_
  exact ⟨G, ⟨0, .slice none 0 0, .slice none 0 0, .slice none 0 0, 0, .slice none 0 0, .slice none 0 0⟩, [], VLe.refl _, rfl, by rw [wdF_no h1']; exact ⟨rfl, ⟨nil_row, fun _ h => (nomatch h)⟩, rfl, nil_row, nil_row, rfl, nil_row, nil_row⟩, hK.drop1.drop1.drop1⟩
 ·have hd := of_dec (Eq.mp (Bool.not_eq_false' _) h1)
  refine sk <| thn <| sq <| rg <| ?_
  refine vl (lsO hK Ty.a30 Ty.s30 2 rfl rfl rfl) <| ?_
  refine cl call34 rfl (copyWorld_c hK hW hd.2.1.1 (by have := hd.2.2.1.1; omega) (by have := hd.wda.zl; omega) (by have := hd.2.2.2.2.1.2.1.len; omega) (by have := hd.2.2.2.2.2.1.len; omega)) ?_
  rintro _ w ⟨G1, W1, q1, AI, AS, hG1, rfl, hW1, hK⟩
  replace hK : K _ _ _ ((b4, row [.int .i64 0, .slice none 0 0, .slice none 0 0, .slice none 0 0, .int .i64 0, .slice none 0 0, .slice none 0 0] 30) :: (b3, row (ec kd a b c) 32) :: (b2, row (wc W) 30) :: (AI ++ (AS ++ L))) := hK.reo
  refine vl (bd [(1, _)] Ty.p73 Ty.i73 rfl ⟨⟨rfl, rfl⟩, trivial⟩ rfl) <| ?_
  refine bx hK rfl rfl ?_
  intro b13 w hK
  refine vl asg <| nl <| thn <| sq <| rg <| vl mv <| vl (lsO hK Ty.a32 Ty.s32 2 rfl rfl rfl) <| ?_
  replace hK : K e w G1 ((b13, row (.int .i32 0 :: .int .u32 0 :: wc W1) 73) :: (b4, row [.int .i64 0, .slice none 0 0, .slice none 0 0, .slice none 0 0, .int .i64 0, .slice none 0 0, .slice none 0 0] 30) :: (b3, row (ec kd a b c) 32) :: (b2, row (wc W) 30) :: (AI ++ (AS ++ L))) := hK
  replace hK : K _ _ _ ((b13, row (.int .i32 0 :: .int .u32 0 :: wc W1) 73) :: (AI ++ (AS ++ ((b4, row [.int .i64 0, .slice none 0 0, .slice none 0 0, .slice none 0 0, .int .i64 0, .slice none 0 0, .slice none 0 0] 30) :: (b3, row (ec kd a b c) 32) :: (b2, row (wc W) 30) :: L)))) := hK.reo
  refine cl call35 rfl (do_c (hE.mono hG1) hW1 hd hK) ?_
  rintro _ w ⟨rfl, G2, W2, q2, AI2, AS2, hG2, hW2, hK⟩
  replace hK : K _ _ _ ((b13, row (.int .i32 0 :: .int .u32 0 :: wc W2) 73) :: (b4, row [.int .i64 0, .slice none 0 0, .slice none 0 0, .slice none 0 0, .int .i64 0, .slice none 0 0, .slice none 0 0] 30) :: (b3, row (ec kd a b c) 32) :: (b2, row (wc W) 30) :: (AI2 ++ (AS2 ++ L))) := hK.reo
  refine nl <| thn <| sq <| rg <| vl mv <| vl (nc rfl) <| vl (fa underlying73 rfl Ty.z30 rfl) <| vl (lsP (u := wc W2) hK Ty.a30 Ty.s30 0 rfl rfl rfl rfl) <| ?_
  refine soS hK Ty.i30 1 rfl rfl rfl rfl (WdO.one hW2) rfl ?_
  intro w hK
  refine nl <| thn <| rt <| pg1r (rvS hK Ty.a30 Ty.s30 1 rfl rfl rfl) <| ?_
  have hK2 : K e w G2 ([(b13, row (.int .i32 0 :: .int .u32 0 :: wc W2) 73), (b4, row (wc W2) 30), (b3, row (ec kd a b c) 32), (b2, row (wc W) 30)] ++ (AI2 ++ (AS2 ++ L))) := hK
  obtain ⟨G3, hG3, hW3, hK3⟩ := hW2.pub hK2.dropL
  exact ⟨G3, W2, q2, (hG1.trans hG2).trans hG3, rfl, by rw [wdF_yes hd]; exact hW3, hK3⟩
end
open Go Go.ChangeShapes Go.WideShapes Go.RowKit Go.Ro
def ldL : List (String × DataW Unit) := [("loop.example/ringoverlay/impl.errArgs", .iface "*errors.errorString" (.ptr (.agg [.lit (.string [97, 114, 103, 117, 109, 101, 110, 116, 115])]))), ("loop.example/ringoverlay/impl.errRefused", .iface "*errors.errorString" (.ptr (.agg [.lit (.string [114, 101, 102, 117, 115, 101, 100])])))]
theorem ld_g0 : Tryz.prog.globalNamed "loop.example/ringoverlay/impl.errArgs" = some 0 := by kernel_rfl
theorem ld_g1 : Tryz.prog.globalNamed "loop.example/ringoverlay/impl.errRefused" = some 1 := by kernel_rfl
theorem ld_t0 : (Tryz.prog.globals[0]?).map (·.type) = some 149 := by kernel_rfl
theorem ld_t1 : (Tryz.prog.globals[1]?).map (·.type) = some 149 := by kernel_rfl
theorem ld_cE : Tryz.prog.cellsOf 241 = 1 := by kernel_rfl
theorem ld_cS : Tryz.prog.cellsOf 9 = 1 := by kernel_rfl
theorem ld_star : "*" ++ "errors.errorString" = "*errors.errorString" := by decide
theorem ld_row (u : TypeId) (h : Tryz.prog.typeName? 3 u = some "*errors.errorString") : u = 216 :=
 typeName_ptr_named (nm := "errors.errorString") (by rw [ld_star]; kernel_rfl) kr (by decide) u (by rw [ld_star]; exact h)
set_option maxRecDepth 100000 in
theorem ld_of {W : World} (h : laidMet Tryz.prog ldL W) :
  ∃ (a0 a1 : Addr), W.var? Tryz.prog "loop.example/ringoverlay/impl.errArgs" = some #[.iface 216 (.pointer (some a0))] ∧ W.var? Tryz.prog "loop.example/ringoverlay/impl.errRefused" = some #[.iface 216 (.pointer (some a1))] ∧ ErrS 216 0 1 (hvw W) a0 a1 := by
 obtain ⟨ps, ⟨g0, t0, cs0, f0, p0, q0, hg0, ht0, hv0, hd0, ⟨g1, t1, cs1, f1, p1, q1, hg1, ht1, hv1, hd1, hq1, e1⟩, e0⟩, hnd, hrows⟩ := h
 obtain rfl := Option.some.inj (ld_g0.symm.trans hg0)
 obtain rfl := Option.some.inj (ld_g1.symm.trans hg1)
 obtain rfl := Option.some.inj (ld_t0.symm.trans ht0)
 obtain rfl := Option.some.inj (ld_t1.symm.trans ht1)
 have hq1' : q1 = [] := hq1
 subst hq1'
 subst e1
 subst e0
 obtain ⟨l0⟩ := cs0
 obtain ⟨l1⟩ := cs1
 have ok0 : ∀ u v, l0 = [.iface u v] → Value.okWide Tryz.prog W .any 0 u v := fun u v e => by
  subst e
  exact (hrows 0 0 (by simp [MemPlace.row])).2 u v (by simpa using World.var?_cell hg0 hv0 0)
 have ok1 : ∀ u v, l1 = [.iface u v] → Value.okWide Tryz.prog W .any 0 u v := fun u v e => by
  subst e
  exact (hrows 1 0 (by simp [MemPlace.row])).2 u v (by simpa using World.var?_cell hg1 hv1 0)
 obtain ⟨a0, s0, rfl, hc0, hs0, hz0, rfl⟩ := errorString_of_trod Tryz.underlying149 ld_row Tryz.underlying216 Tryz.underlying241 rfl rfl Tryz.underlying9 ld_cE ld_cS hd0 ok0
 obtain ⟨a1, s1, rfl, hc1, hs1, hz1, rfl⟩ := errorString_of_trod Tryz.underlying149 ld_row Tryz.underlying216 Tryz.underlying241 rfl rfl Tryz.underlying9 ld_cE ld_cS hd1 ok1
 obtain ⟨c0, t0, hb0⟩ := (hrows a0.block a0.off (by simp [MemPlace.row])).1
 obtain ⟨c1, t1, hb1⟩ := (hrows a1.block a1.off (by simp [MemPlace.row])).1
 have k0 : W.cell? ⟨0, 0, none⟩ = some (.iface 216 (.pointer (some a0))) := by simpa using World.var?_cell ld_g0 hv0 0
 have k1 : W.cell? ⟨1, 0, none⟩ = some (.iface 216 (.pointer (some a1))) := by simpa using World.var?_cell ld_g1 hv1 0
 have kc : ∀ (b : Nat) (v : Value), W.cell? ⟨b, 0, none⟩ = some v → cellV (hvw W) ⟨b, 0, none⟩ = some v := by
  intro b v hb
  unfold World.cell? at hb
  unfold cellV hvw
  exact hb
 refine ⟨a0, a1, hv0, hv1, kc 0 _ k0, kc 1 _ k1, ?_, ⟨c0, t0, hb0⟩, ⟨c1, t1, hb1⟩⟩
 rintro rfl
 simp [MemPlace.row] at hnd
theorem ld_var {W W' : World} {x : Array Value} {s : String} (h : W.var? Tryz.prog s = some x) (hb : Below W.heap.size W W') : W'.var? Tryz.prog s = some x := by
 unfold World.var? at h ⊢
 cases hg : Tryz.prog.globalNamed s with
 | none => simp [hg] at h
 | some g =>
  simp only [hg, Option.bind_some] at h ⊢
  have hlt : g < W.heap.size := by
   rcases Nat.lt_or_ge g W.heap.size with h' | h'
   ·exact h'
   ·simp [Array.getElem?_eq_none h'] at h
  rw [hb.block g hlt]; exact h
theorem ld_read {H : Type} (enc : TypeId × Value → H) {W : World} {x0 x1 : Value} (h0 : W.var? Tryz.prog "loop.example/ringoverlay/impl.errArgs" = some #[x0]) (h1 : W.var? Tryz.prog "loop.example/ringoverlay/impl.errRefused" = some #[x1]) (i0 : IsIface x0) (i1 : IsIface x1) (sp : Nat → Bool) :
  DataW.TrodVars enc Tryz.prog W sp ["loop.example/ringoverlay/impl.errArgs", "loop.example/ringoverlay/impl.errRefused"] [tok enc x0, tok enc x1] [.cell 0 0, .cell 1 0] :=
 ⟨0, 149, #[x0], 1, [], [.cell 1 0], ld_g0, ld_t0, h0, trod_held Tryz.underlying149 i0 0, ⟨1, 149, #[x1], 1, [], [], ld_g1, ld_t1, h1, trod_held Tryz.underlying149 i1 0, rfl, rfl⟩, rfl⟩
noncomputable def ldLow : Nat := (World.holding Tryz.prog default ⟨#[], #[], []⟩).heap.size
noncomputable def ldW (os : Os) : World :=
 let w0 := World.holding Tryz.prog os ⟨#[.cells #[.string { data := #[97, 114, 103, 117, 109, 101, 110, 116, 115] }] 241, .cells #[.string { data := #[114, 101, 102, 117, 115, 101, 100] }] 241], #[], []⟩
 { w0 with heap := (w0.heap.modify 0 fun
   | .cells _ t frozen => .cells #[.iface 216 (.pointer (some ⟨ldLow, 0, none⟩))] t frozen
   | o => o).modify 1 fun
   | .cells _ t frozen => .cells #[.iface 216 (.pointer (some ⟨ldLow + 1, 0, none⟩))] t frozen
   | o => o }
theorem ldW_met (os : Os) (args : Array Value) : laidMet Tryz.prog ldL ((ldW os).forCall (fun _ _ => 0) ⟨#[], args, []⟩).memory :=
 laidMet_of_run (ps := [.cell 0 0, .cell ldLow 0, .cell 1 0, .cell (ldLow + 1) 0]) 8 kr kr kr
open Go Go.Ro Tryz
section
variable {e w : World} {G : View} {L A : Own} {v u cva cvm : Value} {xs ys code more : List Int} {rs qs : List Rn} {W W' : Wv} {wd wd' : Wd} {a b c k kd id p : Int} {i j bk o rb : Nat} {a0 a1 : Addr}
theorem DrawWorldDo_c (hK : K e w G L) (hc : BytS G cva code) :
  Ret prog 9 #[cva] w (fun r w' => ∃ G' W wd rs kd a b c, r = .tuple #[.agg (wc W).toArray, .agg (ec kd a b c).toArray] ∧ VLe G G' ∧ WdS G' lc W wd rs ∧ wd.items.length ≤ 1000000 ∧ K e w' G' L) := by
 refine enterG2 (args := [cva]) func9 rfl rfl rfl rfl ?_
 refine sq <| rg <| ?_
 refine al hK Ty.i30 rfl ?_
 intro b2 w hK
 refine al hK Ty.i32 rfl ?_
 intro b3 w hK
 refine nl <| thn <| sq <| rg <| vl mv <| ?_
 refine cl call29 rfl (l6Open_c hK hc) ?_
 rintro _ w ⟨rb, cvb, code, rfl, hcode, hlen, hK⟩
 refine vl asg <| nl <| thn <| sq <| rg <| vl mv <| ?_
 refine cl call30 rfl (l92World_c hK hcode hlen om om) ?_
 rintro _ w ⟨G1, W0, wd0, rs0, p1, hG1, rfl, hW0, hok, hp1, hp2, hK⟩
 replace hcode := hcode.mono hG1
 have hil0 : wd0.items.length ≤ 1000000 := by have := hok.wda.zl; omega
 refine al hK Ty.i30 rfl ?_
 intro b5 w hK
 refine soS hK Ty.i30 0 rfl rfl rfl rfl (WdS.one hW0) rfl ?_
 intro w hK
 refine nl <| thn <| sq <| rg <| vl mv <| vl (lsO hK Ty.a30 Ty.s30 0 rfl rfl rfl) <| ?_
 refine cl call31 rfl (l92EventJ_c 1 hK rfl hcode hlen om om hW0 hok) ?_
 rintro _ w ⟨kd, a, b, c, p2, rfl, hp3, hp4, hK⟩
 refine al hK Ty.i32 rfl ?_
 intro b6 w hK
 refine soS hK Ty.i32 0 rfl rfl rfl rfl rfl rfl ?_
 intro w hK
 refine nl <| thn <| sq <| sq <| rg <| vl mv <| ?_
 refine cl call32 rfl (pickJ_c 2 hK rfl hcode hlen om om om) ?_
 rintro _ w ⟨⟨k15, rfl, hk15, hkn15⟩, hK⟩
 refine vl (eq rfl rfl) <| nl <| thn <| ?_
 refine ct (σ := View × Wv × Wd × List Rn × Int) (fun s => [(2, .pointer (some ⟨b2, 0, none⟩)), (3, .pointer (some ⟨b3, 0, none⟩)), (4, .pointer (some ⟨rb, 0, none⟩)), (5, .pointer (some ⟨b5, 0, none⟩)), (6, .pointer (some ⟨b6, 0, none⟩))]) (fun s w => VLe G s.1 ∧ WdS s.1 lc s.2.1 s.2.2.1 s.2.2.2.1 ∧ s.2.2.1.items.length ≤ 1000000 ∧ K e w s.1 ((b6, row (ec kd a b c) 32) :: (b5, row (wc s.2.1) 30) :: (rb, row [cvb, .int .i64 s.2.2.2.2] 98) :: (b3, row [.int .i64 0, .int .i64 0, .int .i64 0, .int .i64 0] 32) :: (b2, row [.int .i64 0, .slice none 0 0, .slice none 0 0, .slice none 0 0, .int .i64 0, .slice none 0 0, .slice none 0 0] 30) :: L)) ?_ ?_
 ·refine cdP rfl (fun c0 => ?_) fun c0 => ?_
  ·refine rg <| ?_
   refine vl mv <| ?_
   replace hK : K e w G1 ((b6, row (ec kd a b c) 32) :: (b5, row (wc W0) 30) :: (rb, row [cvb, .int .i64 (p2 + 1)] 98) :: (b3, row [.int .i64 0, .int .i64 0, .int .i64 0, .int .i64 0] 32) :: (b2, row [.int .i64 0, .slice none 0 0, .slice none 0 0, .slice none 0 0, .int .i64 0, .slice none 0 0, .slice none 0 0] 30) :: L) := hK
   replace hK : K _ _ _ ((rb, row [cvb, .int .i64 (p2 + 1)] 98) :: (b6, row (ec kd a b c) 32) :: (b5, row (wc W0) 30) :: (b3, row [.int .i64 0, .int .i64 0, .int .i64 0, .int .i64 0] 32) :: (b2, row [.int .i64 0, .slice none 0 0, .slice none 0 0, .slice none 0 0, .int .i64 0, .slice none 0 0, .slice none 0 0] 30) :: L) := hK.reo
   refine cl call33 rfl (l92Wrong_c hK hcode hlen om om) ?_
   rintro _ w ⟨G2, W, wd, rs, p3, hG2, rfl, hW, hil, hp5, hp6, hK⟩
   replace hK : K _ _ _ ((b6, row (ec kd a b c) 32) :: (b5, row (wc W0) 30) :: (rb, row [cvb, .int .i64 p3] 98) :: (b3, row [.int .i64 0, .int .i64 0, .int .i64 0, .int .i64 0] 32) :: (b2, row [.int .i64 0, .slice none 0 0, .slice none 0 0, .slice none 0 0, .int .i64 0, .slice none 0 0, .slice none 0 0] 30) :: L) := hK.reo
   refine soS hK Ty.i30 1 rfl rfl rfl rfl (WdS.one hW) rfl ?_
   intro w hK
   refine nl <| ctn <| ?_
   exact ⟨(G2, W, wd, rs, p3), ⟨rfl, rfl, rfl, rfl, rfl, trivial⟩, hG1.trans hG2, hW, hil, hK⟩
  ·refine sk <| ctn <| ?_
   exact ⟨(G1, W0, wd0, rs0, p2 + 1), ⟨rfl, rfl, rfl, rfl, rfl, trivial⟩, hG1, hW0, hil0, hK⟩
 ·rintro ⟨G3, W3, wd3, rs3, p3⟩ g w ⟨hG3, hW3, hil3, hK⟩
  simp only at hG3 hW3 hil3 hK
  refine thn <| sq <| ?_
  refine rgs (fun w => K e w G3 ((b6, row (ec kd a b c) 32) :: (b5, row (wc W3) 30) :: L)) (fun w => K _ w _ _) [U,U,U,U] 4 Ty.mixed rfl rfl (hK.drawn _) ?_
  intro w hK
  have hS : (fun w => K e w G3 ((b6, row (ec kd a b c) 32) :: (b5, row (wc W3) 30) :: L)) w := K.sl hK
  refine xt (i := 0) rfl kr rfl rfl (fun w hK => (lsO hK Ty.a30 Ty.s30 1 rfl rfl rfl)) hS <| xt (i := 1) rfl kr rfl rfl (fun w hK => (lsO hK Ty.a32 Ty.s32 0 rfl rfl rfl)) hS <| ?_
  refine xe (i := 2) kr rfl rfl ?_
  refine soS hK Ty.i30 4 rfl rfl rfl rfl (WdS.one hW3) rfl ?_
  intro w hK
  refine xnk (K.sl hK) fun hS => ?_
  refine xe (i := 3) kr rfl rfl ?_
  refine soS hK Ty.i32 3 rfl rfl rfl rfl rfl rfl ?_
  intro w hK
  refine xnk (K.sl hK) fun hS => ?_
  refine xd kr <| thn <| rt <| pg2r (rvS hK Ty.a30 Ty.s30 4 rfl rfl rfl) (rvS hK Ty.a32 Ty.s32 3 rfl rfl rfl) <| ?_
  exact ⟨G3, W3, wd3, rs3, kd, a, b, c, rfl, hG3, hW3, hil3, hK.drop1.drop1.drop1.drop1.drop1⟩
set_option maxRecDepth 20000 in
end
open Go Go.Ro Tryz
section
variable {e w : World} {G : View} {L A : Own} {v u cva cvm : Value} {xs ys code more : List Int} {rs qs : List Rn} {W W' : Wv} {wd wd' : Wd} {a b c k kd id p : Int} {i j bk o rb : Nat} {a0 a1 : Addr}
end
open Go Go.Ro Tryz
section
variable {e w : World} {G : View} {L A : Own} {v u cva cvm : Value} {xs ys code more : List Int} {rs qs : List Rn} {W W' : Wv} {wd wd' : Wd} {a b c k kd id p : Int} {i j bk o rb : Nat} {a0 a1 : Addr}
set_option maxRecDepth 20000 in
end
end Go.Proofs.YtmfolinemnlnbaaGreatDoor