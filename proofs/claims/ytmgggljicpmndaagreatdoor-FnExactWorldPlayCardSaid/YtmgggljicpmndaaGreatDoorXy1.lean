/- The program's guarded events: in new memory. The program's events of worlds: what they give back lies in new memory. Contracts of the functions that copy a law's world: the copy lies in new memory. The law on one event of a world, exactly. Conditions: those that each row states. -/
import Derived.Test.YtmgggljicpmndaaGreatDoorSe
import Derived.Test.YtmgggljicpmndaaGreatDoorXp1
import Derived.Test.YtmgggljicpmndaaGreatDoorXr1
import Derived.Test.YtmgggljicpmndaaGreatDoorType
import Derived.Test.YtmgggljicpmndaaGreatDoorPy
namespace Go.Proofs.YtmgggljicpmndaaGreatDoor
open Go Go.Ro Tryz
section
open Go.MuLone
variable {e w : World} {G G0 : View} {L A AI AS : Own} {v u m0 m1 : Value} {rs qs : List Rn} {W W' : Wv} {wd wd' : Wd} {a b c k kd : Int} {gk : Nat} {a0 a1 : Addr} {l : List Value}
theorem doF_c (hG0 : VLe G0 G) (hE : ErrS 228 0 1 G a0 a1) (h : WdP G0 G 98 101 lc 104 3 W wd rs AI AS) (hok : WdOk wd) (hK : K e w G ((gk, row (.int .i32 0 :: m1 :: wc W) 69) :: (AI ++ (AS ++ L)))) :
  Ret prog 26 #[.pointer (some ⟨gk, 0, none⟩), .agg (ec kd a b c).toArray] w (fun r w' => r = .tuple #[] ∧ ∃ G' W' rs' AI' AS', VLe G G' ∧ WdP G0 G' 98 101 lc 104 3 W' (doW wd kd a b c) rs' AI' AS' ∧ K e w' G' ((gk, row (.int .i32 0 :: m1 :: wc W') 69) :: (AI' ++ (AS' ++ L)))) := by
 refine enterDf (n := Tryz.f26.ntmps) (args := [.pointer (some ⟨gk, 0, none⟩), .agg (ec kd a b c).toArray]) func26 rfl rfl rfl ?_
 refine sqA (rg ?_)
 refine bx hK rfl rfl ?_
 intro b3 w hK
 refine nl ⟨rfl, ?_⟩
 refine sqA (rg ?_)
 refine vl mv <| vl (nc rfl) <| vl (fa underlying69 rfl Ty.z67 rfl) <| ?_
 refine cl call64 rfl (lockR hK.swp) ?_
 rintro _ w ⟨rfl, hK⟩
 refine nl ⟨rfl, ?_⟩
 refine wp_seq (wp_region_lit ?_)
 refine valA rfl mv <| valA rfl (nc rfl) <| valA rfl (fa underlying69 rfl Ty.z67 rfl) <| dfA rfl ?_
 replace hK : K e w G ((b3, row (ec kd a b c) 55) :: (gk, row (.int .i32 1 :: m1 :: wc W) 69) :: (AI ++ (AS ++ L))) := hK.swp
 refine rgxD (Q3 := fun _ _ w => ∃ G' W' rs' AI' AS', VLe G G' ∧ WdP G0 G' 98 101 lc 104 3 W' (doW wd kd a b c) rs' AI' AS' ∧ K e w G' ((gk, row (.int .i32 1 :: m1 :: wc W') 69) :: (AI' ++ (AS' ++ ((b3, row (ec kd a b c) 55) :: L))))) (fun w => K e w G ((b3, row (ec kd a b c) 55) :: L)) [U,U,U,U,U] Ty.mixed rfl rfl (C := fun w => K e w G ((b3, row (ec kd a b c) 55) :: (gk, row (.int .i32 1 :: m1 :: wc W) 69) :: (AI ++ (AS ++ L)))) (hK.drawn _) ?_ ?_
 ·intro w hK
  have hS : (fun w => K e w G ((b3, row (ec kd a b c) 55) :: L)) w := K.sl hK
  refine xt (i := 0) rfl kr rfl rfl (fun w hK => mv) hS <| ?_
  refine xt (i := 1) rfl kr rfl rfl (fun w hK => (nc rfl)) hS <| ?_
  refine xt (i := 2) rfl kr rfl rfl (fun w hK => (fa underlying69 rfl Ty.z31 rfl)) hS <| ?_
  refine xt (i := 3) rfl kr rfl rfl (fun w hK => (lsO hK Ty.a55 Ty.s55 0 rfl rfl rfl)) hS <| ?_
  refine xe (i := 4) kr rfl rfl ?_
  have hK1 : K e w G ((gk, row (.int .i32 1 :: m1 :: wc W) 69) :: (AI ++ (AS ++ ((b3, row (ec kd a b c) 55) :: L)))) := hK.reo
  refine cl call66 rfl (applyF_c hG0 hE h hok hK1) ?_
  rintro _ w ⟨rfl, G1, W1, q1, AI1, AS1, hG1, hW1, hK⟩
  have hS2 : K e w G ((b3, row (ec kd a b c) 55) :: L) := K.vle (K.sl hK) hG1
  refine xn (fun w => K e w G ((b3, row (ec kd a b c) 55) :: L)) hS2 (fun _ h => h) ?_
  exact xd kr ⟨G1, W1, q1, AI1, AS1, hG1, hW1, hK⟩
 ·rintro g w ⟨G1, W1, q1, AI1, AS1, hG1, hW1, hK⟩
  have hb := hK.own gk _ (List.mem_cons_self ..)
  refine leaves_cons (f := 65) (args := #[.pointer (some ⟨gk, 0, none⟩)]) (by simp) (call65 _ _) ?_
  refine (unlock_deferred muLib ⟨gk, 0, none⟩ .returning w (by simp [World.cell?, hb, row]) (by simp [World.frozen?, hb, row])).mono ?_
  rintro e u' w' ⟨rfl, rfl, rfl⟩
  exact ⟨_, results_none rfl _ _ _, _, rfl, rfl, G1, W1, q1, AI1, AS1, hG1, hW1, outB (K.set0 hK)⟩
end
open Go Go.Ro Tryz
section
variable {e w : World} {G G0 : View} {L A AI AS : Own} {v u m0 m1 : Value} {rs qs : List Rn} {W W' : Wv} {wd wd' : Wd} {a b c k kd : Int} {gk : Nat} {a0 a1 : Addr} {l : List Value}
end
open Go Go.Ro Tryz
section
variable {e w : World} {G G0 : View} {L A : Own} {v u t t2 : Value} {xs ys : List Int} {ls ms : List Ls} {rs qs : List Rn} {zs ts : List It} {W W' : Wv} {wd wd' : Wd} {n m k : Int}
end
open Go Go.Ro Tryz
section
variable {e w : World} {G : View} {L : Own} {v u : Value} {rs qs : List Rn} {W W' : Wv} {wd wd' : Wd} {a b c kd n m k : Int} {a0 a1 : Addr}
theorem toEvent_c (hK : K e w G L) : Ret prog 20 #[.agg (ec kd a b c).toArray] w (fun r w' => r = .agg (ec kd a b c).toArray ∧ K e w' G L) := by
 refine enterG1 (args := [.agg (ec kd a b c).toArray]) func20 rfl rfl rfl rfl ?_
 refine sq <| rg <| ?_
 refine bx hK rfl rfl ?_
 intro b1 w hK
 refine al hK Ty.i55 rfl ?_
 intro b2 w hK
 refine nl <| thn <| sq <| rg <| ?_
 refine al hK Ty.i55 rfl ?_
 intro b3 w hK
 refine nl <| thn <| sq <| rg <| vl (fa underlying51 rfl Ty.z3 rfl) <| vl (ldO hK Ty.o3 2 rfl rfl rfl) <| vl (fa underlying55 rfl Ty.z3 rfl) <| ?_
 refine so hK Ty.i3 rfl 0 rfl rfl rfl rfl rfl ?_
 intro w hK
 refine nl <| thn <| sq <| rg <| vl (fa underlying51 rfl Ty.z3 rfl) <| vl (ldO hK Ty.o3 2 rfl rfl rfl) <| vl (fa underlying55 rfl Ty.z3 rfl) <| ?_
 refine so hK Ty.i3 rfl 0 rfl rfl rfl rfl rfl ?_
 intro w hK
 refine nl <| thn <| sq <| rg <| vl (fa underlying51 rfl Ty.z3 rfl) <| vl (ldO hK Ty.o3 2 rfl rfl rfl) <| vl (fa underlying55 rfl Ty.z3 rfl) <| ?_
 refine so hK Ty.i3 rfl 0 rfl rfl rfl rfl rfl ?_
 intro w hK
 refine nl <| thn <| sq <| rg <| vl (fa underlying51 rfl Ty.z3 rfl) <| vl (ldO hK Ty.o3 2 rfl rfl rfl) <| vl (fa underlying55 rfl Ty.z3 rfl) <| ?_
 refine so hK Ty.i3 rfl 0 rfl rfl rfl rfl rfl ?_
 intro w hK
 refine nl <| thn <| sq <| rg <| vl (lsO hK Ty.a55 Ty.s55 0 rfl rfl rfl) <| ?_
 refine soS hK Ty.i55 1 rfl rfl rfl rfl rfl rfl ?_
 intro w hK
 refine nl <| thn <| rt <| pg1r (rvS hK Ty.a55 Ty.s55 1 rfl rfl rfl) <| ?_
 exact ⟨rfl, hK.drop1.drop1.drop1⟩
theorem wdok_sz (h : WdOk wd) (hr : rgl rs = wd.ring) : wsz wd rs ≤ 100000 := by
 have hrg : RgOk wd.ring := h.2.1.1
 have h1 : nsz rs ≤ 4 * rs.length := by
  rw [nsz_rg, hr]
  have h2 : (wd.ring.map fun n => 2 + n.2.2.length).length = rs.length := by rw [List.length_map, ← hr, rg_len]
  rw [← h2]
  refine sum_le fun x hx => ?_
  obtain ⟨y, hy, rfl⟩ := List.mem_map.1 hx
  have := (hrg.2.1 y hy).2.2.1; omega
 have h3 : rs.length ≤ 10 := by have := hrg.1; rw [← hr, rg_len] at this; exact this
 have h4 := h.2.2.1.1.2
 have h5 := h.wda.zl
 have h6 := h.2.2.2.2.1.2.1.len
 have h7 := h.2.2.2.2.2.1.len
 unfold wsz
 omega
theorem wdZ_sz (hr : rgl rs = wdZ.ring) : wsz wdZ rs ≤ 100000 := by
 have : rs = [] := by
  have := congrArg List.length hr
  rw [rg_len] at this
  exact List.eq_nil_of_length_eq_zero this
 subst this
 unfold wsz wdZ nsz; simp
end
end Go.Proofs.YtmgggljicpmndaaGreatDoor
