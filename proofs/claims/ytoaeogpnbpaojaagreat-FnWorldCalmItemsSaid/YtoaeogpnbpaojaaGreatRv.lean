/- Binary searches. Insertions into slices. Copies of slices, deletions from them. errors.Is over two variables of a package. The program's operations on leases. The program's leases renewed; copies of worlds. The program's rings that a node leaves or joins. The steps of the program's rings. Conditions: those that each row states. -/
import Derived.Test.YtoaeogpnbpaojaaGreatWv
import Derived.Test.YtoaeogpnbpaojaaGreatIns
import Derived.WalkKit
import Derived.LaidEql
import Derived.Stop.Asserts
import Derived.RowKitTokens
import Derived.Test.YtoaeogpnbpaojaaGreatPz
import Derived.Test.YtoaeogpnbpaojaaGreatWc
namespace Go.Proofs.YtoaeogpnbpaojaaGreat
open Go Go.Ro

section
variable {e w : World} {G : View} {L A : Own} {v u : Value} {ls : List Ls} {rs : List Rn} {zs : List It} {k : Int}

end
end Go.Proofs.YtoaeogpnbpaojaaGreat
namespace Go.Proofs.YtoaeogpnbpaojaaGreat
open Go Go.Ro

section
variable {e w : World} {G : View} {L A : Own} {v u : Value} {k : Int} {i b2 : Nat}

section
variable {xs : List It} {x : It}
end
section
variable {xs : List Ls} {x : Ls}
end
section
variable {xs : List Rn} {x : Rn}
end
end
end Go.Proofs.YtoaeogpnbpaojaaGreat
namespace Go.Proofs.YtoaeogpnbpaojaaGreat
open Go Go.Ro

section
variable {e w : World} {G : View} {L A : Own} {v u : Value} {xs : List Int} {k : Int} {i : Nat}

theorem cloneI_c {zs : List It} (hK : K e w G L) (hv : SlR 2 (EF ic) G v zs) (hle : zs.length ≤ 1000000) :
  Ret Tryz.prog 85 #[v] w (fun r w' => ∃ A, OS 2 68 r zs.length (zs.flatMap ic) A ∧ K e w' G (A ++ L)) := by
 refine enter1 (args := [v]) Tryz.func85 rfl rfl rfl rfl ?_
 refine sq <| rg <| ?_
 refine vl asg <| nl <| thn <| sq <| sq <| rg <| vl mv <| vl (eqSn Tryz.underlying25 rfl hv.len rfl) <| nl <| thn <| ?_
 refine cdB rfl (fun h => ?_) (fun h => ?_)
 ·have hx : zs = [] := List.eq_nil_of_length_eq_zero (hv.1.nil_len h)
  subst hx
  refine sq <| rg <| ?_
  refine vl asg <| nl <| thn <| rt <| thr <| p1r (a := _) rfl <| ?_
  exact ⟨[], OS.nil _ _, hK⟩
 ·refine sk <| thn <| sq <| rg <| ?_
  refine bs0 hK Tryz.underlying25 Ty.i68 ?_
  intro b5 w hK
  refine vl mv <| ?_
  refine apE (c := ic) (A := [(b5, row [] 68)]) (xs := []) (ys := zs) (fun _ => rfl) rfl (fun _ => rfl) hK Tryz.underlying25 Ty.i68 rfl rfl rfl OS.none rfl hv (by simp; omega) fun v' A' w ho hK => ?_
  refine vl asg <| nl <| thn <| rt <| p1r (a := _) rfl <| ?_
  exact ⟨A', ho, hK⟩
theorem cloneL_c {zs : List Ls} (hK : K e w G L) (hv : SlR 3 (EF lc) G v zs) (hle : zs.length ≤ 1000000) :
  Ret Tryz.prog 84 #[v] w (fun r w' => ∃ A, OS 3 102 r zs.length (zs.flatMap lc) A ∧ K e w' G (A ++ L)) := by
 refine enter1 (args := [v]) Tryz.func84 rfl rfl rfl rfl ?_
 refine sq <| rg <| ?_
 refine vl asg <| nl <| thn <| sq <| sq <| rg <| vl mv <| vl (eqSn Tryz.underlying24 rfl hv.len rfl) <| nl <| thn <| ?_
 refine cdB rfl (fun h => ?_) (fun h => ?_)
 ·have hx : zs = [] := List.eq_nil_of_length_eq_zero (hv.1.nil_len h)
  subst hx
  refine sq <| rg <| ?_
  refine vl asg <| nl <| thn <| rt <| thr <| p1r (a := _) rfl <| ?_
  exact ⟨[], OS.nil _ _, hK⟩
 ·refine sk <| thn <| sq <| rg <| ?_
  refine bs0 hK Tryz.underlying24 Ty.i102 ?_
  intro b5 w hK
  refine vl mv <| ?_
  refine apE (c := lc) (A := [(b5, row [] 102)]) (xs := []) (ys := zs) (fun _ => rfl) rfl (fun _ => rfl) hK Tryz.underlying24 Ty.i102 rfl rfl rfl OS.none rfl hv (by simp; omega) fun v' A' w ho hK => ?_
  refine vl asg <| nl <| thn <| rt <| p1r (a := _) rfl <| ?_
  exact ⟨A', ho, hK⟩
end
end Go.Proofs.YtoaeogpnbpaojaaGreat
namespace Go.Proofs.YtoaeogpnbpaojaaGreat
open Go Go.RowKit Go.Extern.Stop Go.Stop Go.Extern

def cmpE : Array Value → Sem Value := Extern.ReflectliteType.method fun t => do Go.Extern.Rtype.noPackHeld "Comparable" t; pure (.bool (← typeInfo t).comparable)
end Go.Proofs.YtoaeogpnbpaojaaGreat
namespace Go.Proofs.YtoaeogpnbpaojaaGreat
open Go Go.Ro

section
variable {e w : World} {G : View} {L A : Own} {v u : Value} {ls ms : List Ls} {k fr at' to un key now ow : Int} {i : Nat} {a0 a1 : Addr} {o : Option (List Ls)} {ok : Prop}

theorem lc_len (x : Ls) : (lc x).length = 3 := rfl
theorem mk2 {p : Int → Prop} {a b : Int} (h : p a ∧ p b) : ∀ x ∈ [a, b], p x := by
 intro x hx
 simp only [List.mem_cons, List.not_mem_nil, or_false] at hx
 rcases hx with rfl | rfl
 ·exact h.1
 ·exact h.2
end
end Go.Proofs.YtoaeogpnbpaojaaGreat
namespace Go.Proofs.YtoaeogpnbpaojaaGreat
open Go Go.Ro

section
variable {e w : World} {G : View} {L A : Own} {v u : Value} {ls ms : List Ls} {k fr at' to un key now ow : Int} {i : Nat} {a0 a1 : Addr}

set_option maxHeartbeats 1000000 in
set_option maxHeartbeats 4000000 in
theorem copyWorld_c {W : Wv} {wd : Wd} {rs : List Rn} (hK : K e w G L) (hW : WdS G lc W wd rs) (hok : RgOk wd.ring) (hll : wd.leases.length ≤ 1000000) (hil : wd.items.length ≤ 1000000) (htl : wd.scan.2.length ≤ 1000000) (hsl : wd.since.length ≤ 1000000) :
  Ret Tryz.prog 23 #[.agg (wc W).toArray] w (fun r w' => ∃ G' W' rs' AI AS, VLe G G' ∧ r = .agg (wc W').toArray ∧ WdO G' lc 68 3 W' wd rs' AI AS ∧ K e w' G' (AI ++ (AS ++ L))) := by
 have hok' : RgOk (rgl rs) := by rw [hW.rg]; exact hok
 refine enterG1 (args := [.agg (wc W).toArray]) Tryz.func23 rfl rfl rfl rfl ?_
 refine sq <| rg <| ?_
 refine bx hK rfl rfl ?_
 intro b1 w hK
 refine al hK Ty.i30 rfl ?_
 intro b2 w hK
 refine nl <| thn <| sq <| ?_
 refine rgs (fun w => K e w G ((b1, row (wc W) 30) :: L)) (fun w => K _ w _ _) [U,U,U,U,U,U,U,U,U,U,U,U,U,U,U,U,U,U,U] 19 Ty.mixed rfl rfl (hK.drawn _) ?_
 intro w hK
 have hS : (fun w => K e w G ((b1, row (wc W) 30) :: L)) w := K.sl hK
 refine xt (i := 0) rfl kr rfl rfl (fun w hK => (fa Tryz.underlying30 rfl Ty.z3 rfl)) hS <| ?_; refine xt (i := 1) rfl kr rfl rfl (fun w hK => (ldO hK Ty.o3 0 rfl rfl rfl)) hS <| ?_; refine xt (i := 2) rfl kr rfl rfl (fun w hK => (fa Tryz.underlying30 rfl Ty.z23 rfl)) hS <| ?_; refine xt (i := 3) rfl kr rfl rfl (fun w hK => (ldO hK Ty.o23 0 rfl rfl rfl)) hS <| ?_; refine xt (i := 5) rfl kr rfl rfl (fun w hK => (fa Tryz.underlying30 rfl Ty.z24 rfl)) hS <| ?_; refine xt (i := 6) rfl kr rfl rfl (fun w hK => (ldO hK Ty.o24 0 rfl rfl rfl)) hS <| ?_; refine xt (i := 8) rfl kr rfl rfl (fun w hK => (fa Tryz.underlying30 rfl Ty.z25 rfl)) hS <| ?_; refine xt (i := 9) rfl kr rfl rfl (fun w hK => (ldO hK Ty.o25 0 rfl rfl rfl)) hS <| ?_; refine xt (i := 11) rfl kr rfl rfl (fun w hK => (fa Tryz.underlying30 rfl Ty.z28 rfl)) hS <| ?_; refine xt (i := 12) rfl kr rfl rfl (fun w hK => (lsP (u := [.int .i64 W.next, W.t]) hK Ty.a28 Ty.s28 0 rfl rfl rfl rfl)) hS <| ?_; refine xt (i := 14) rfl kr rfl rfl (fun w hK => (fa Tryz.underlying30 rfl Ty.z26 rfl)) hS <| ?_; refine xt (i := 15) rfl kr rfl rfl (fun w hK => (ldO hK Ty.o26 0 rfl rfl rfl)) hS <| ?_
 refine xe (i := 4) kr rfl rfl ?_
 refine cl Tryz.call83 rfl (copyRing_v hK hW.ring hok') ?_
 rintro v7 w ⟨G1, q1, hG1, hq1, hr1, hK⟩
 refine xnk ((K.vle (K.sl hK) hG1)) fun hS => ?_
 refine xe (i := 7) kr rfl rfl ?_
 refine cl Tryz.call84 rfl (cloneL_c hK (LeaS.mono hW.leases hG1) hll) ?_
 rintro v10 w ⟨A1, ho1, hK⟩
 have hpub := K.pubE lc_len hK ho1
 clear ho1 hK
 obtain ⟨G2, hG2, hx2, hK⟩ := hpub
 refine xnk ((K.vle (K.sl hK) (hG1.trans hG2))) fun hS => ?_
 refine xe (i := 10) kr rfl rfl ?_
 refine cl Tryz.call85 rfl (cloneI_c hK (hW.items.mono (hG1.trans hG2)) hil) ?_
 rintro v13 w ⟨AI, hoI, hK⟩
 replace hK := K.mid (A := AI) (B := [_, _]) hK
 refine xnk ((K.vle (K.sl hK) (hG1.trans hG2))) fun hS => ?_
 refine xe (i := 13) kr rfl rfl ?_
 refine cl Tryz.call86 rfl (copyScan_c hK (hW.told.mono (hG1.trans hG2)) om) ?_
 rintro _ w ⟨v16, A3, rfl, ho3, hK⟩
 have hpub := K.pubO hK ho3
 clear ho3 hK
 obtain ⟨G3, hG3, hx3, hK⟩ := hpub
 have hGa := (hG1.trans hG2).trans hG3
 refine xnk ((K.vle (K.sl hK) hGa)) fun hS => ?_
 refine xe (i := 16) kr rfl rfl ?_
 refine cl Tryz.call87 rfl (clone_c hK (hW.since.mono hGa) om) ?_
 rintro v19 w ⟨AS, hoS, hK⟩
 replace hK := K.mid (A := AS) (B := [_, _]) hK
 have hW2 : WdO G3 lc 68 3 ⟨W.now, v7, v10, v13, W.next, v16, v19⟩ wd q1 AI AS := ⟨hW.now, hr1.mono (hG2.trans hG3), hq1.trans hW.rg, LeaS.mono hx2 hG3, .inl hoI, hW.next, hx3, .inl (by rw [← ints_flat]; exact hoS)⟩
 refine xnk ((K.vle (K.sl hK) hGa)) fun hS => ?_
 refine xe (i := 17) kr rfl rfl ?_
 refine vl (bd [(0, _), (1, _), (2, _), (3, _), (4, _), (5, _)] Ty.p30 Ty.i30 rfl ⟨⟨rfl, rfl⟩, ⟨rfl, one_cells (SlW.one hr1.sl.1)⟩, ⟨rfl, one_cells (SlW.one hx2.1)⟩, ⟨rfl, one_cells (OS.one hoI)⟩, ⟨rfl, rfl⟩, ⟨rfl, one_cells (OS.one hoS)⟩, trivial⟩ rfl) <| ?_
 refine xnk ((K.vle (K.sl hK) hGa)) fun hS => ?_
 refine xe (i := 18) kr rfl rfl ?_
 refine soS hK Ty.i30 0 rfl rfl rfl rfl (WdO.one hW2) rfl ?_
 intro w hK
 refine xnk ((K.vle (K.sl hK) hGa)) fun hS => ?_
 refine xd kr <| thn <| rt <| pg1r (rvS hK Ty.a30 Ty.s30 0 rfl rfl rfl) <| ?_
 have hK2 : K e w G3 ((b2, row (wc ⟨W.now, v7, v10, v13, W.next, v16, v19⟩) 30) :: (b1, row (wc W) 30) :: (AS ++ (AI ++ L))) := hK
 exact ⟨G3, _, q1, AI, AS, hGa, rfl, hW2, K.mid (A := AS) (B := AI) hK2.drop1.drop1⟩
end
end Go.Proofs.YtoaeogpnbpaojaaGreat

namespace Go.Proofs.YtoaeogpnbpaojaaGreat
open Go Go.Ro

section
variable {e w : World} {G : View} {L A : Own} {v u : Value} {xs ys : List Int} {rs qs : List Rn} {a b k id other at' : Int} {i sb bk : Nat}

end
end Go.Proofs.YtoaeogpnbpaojaaGreat
namespace Go.Proofs.YtoaeogpnbpaojaaGreat
open Go Go.Ro

section
variable {e w : World} {G : View} {L A : Own} {v u : Value} {rs qs : List Rn} {a b k id other at' : Int} {i sb bk : Nat}

theorem stp_bool {G : View} {t s sb : Nat} {L : Own} {o : Option (List Nd)} {r : Value} {w : World} (h : StpR e G t s sb L o r w) : ∃ b, r = .bool b := by
 rcases h with ⟨rfl, _⟩ | ⟨_, _, _, _, rfl, _⟩ <;> exact ⟨_, rfl⟩
theorem RingDrop1_c {t b3 : Nat} (hsf : RgSafe (rgl rs)) (ho : OR G 106 v rs A) (h3 : (b3, row [.int .i64 id] t) ∈ L) (hK : K e w G ((sb, row [v] 155) :: (A ++ L))) :
  Ret Tryz.prog 172 #[.pointer (some ⟨sb, 0, none⟩), .pointer (some ⟨b3, 0, none⟩)] w (StpR e G 106 155 sb L (dropR (rgl rs) id)) := by
 refine enter1 (args := [.pointer (some ⟨sb, 0, none⟩), .pointer (some ⟨b3, 0, none⟩)]) Tryz.func172 rfl rfl rfl rfl ?_
 refine sq <| rg <| ?_
 refine vl (aB rfl) <| nl <| thn <| sq <| rg <| vl mv <| vl (ldC Ty.o3 rfl (row_cell (l := [Value.int .i64 id]) (hK.own _ _ (List.mem_cons_of_mem _ (List.mem_append_right _ h3))))) <| ?_
 refine cl Tryz.call173 rfl (dropStep_c hsf ho hK) ?_
 rintro r w hR
 obtain ⟨bb, rfl⟩ := stp_bool hR
 refine vl (aB rfl) <| nl <| thn <| rt <| p1r (a := .bool _) rfl <| ?_
 exact hR
theorem implRingDrop_c (hK : K e w G L) (hv : RngS G v rs) : Ret Tryz.prog 157 #[v, .int .i64 id] w (fun r w' => ∃ G', VLe G G' ∧ RgA G' r (tk (rgl rs) (Pt id) (dropR (rgl rs) id)) ∧ K e w' G' L) := by
 have e1 : (∀ x ∈ [id], Pt x) = Pt id := propext ⟨fun h => h id (by simp), fun h x hx => by obtain rfl := List.mem_singleton.1 hx; exact h⟩
 refine enter2 (args := [v, .int .i64 id]) Tryz.func157 rfl rfl rfl rfl ?_
 refine sq <| rg <| ?_
 refine bx hK rfl rfl ?_
 intro b3 w hK
 refine vl asg <| vl (aB rfl) <| nl <| thn <| sq <| rg <| vl mv <| vl (mkf rfl) <| vl (ldO hK Ty.o3 0 rfl rfl rfl) <| ?_
 refine bsN [.tmp 8] hK Tryz.underlying26 Ty.i3 rfl rfl rfl rfl rfl rfl rfl rfl ?_
 intro b9 w hK
 refine cl Tryz.call171 rfl (take_c (F := 172) (cap := [.pointer (some ⟨b3, 0, none⟩)]) (xs := [id]) (o := dropR (rgl rs) id) Tryz.call172 hK rfl hv (fun G' sb v' rs' A w hG hsf hx hr ho hK => by rw [← hr]; exact RingDrop1_c (t := 3) (by rw [hr]; exact hsf) ho (List.mem_cons_of_mem _ (List.mem_cons_self ..)) hK)) ?_
 rintro _ w ⟨G1, hG1, hR, hK⟩
 rw [e1] at hR
 obtain ⟨v', qs, rfl, hq, hqr⟩ := hR
 refine vl (ext rfl rfl) <| vl (ext rfl rfl) <| vl asg <| vl (aB rfl) <| nl <| thn <| rt <| p2r (a := _) (b := .bool _) rfl rfl <| ?_
 exact ⟨G1, hG1, ⟨v', qs, rfl, hq, hqr⟩, hK.drop1⟩
theorem RingAdopt1_c {t b3 : Nat} (hsf : RgSafe (rgl rs)) (ho : OR G 106 v rs A) (h3 : (b3, row [.int .i64 id] t) ∈ L) (hK : K e w G ((sb, row [v] 155) :: (A ++ L))) :
  Ret Tryz.prog 174 #[.pointer (some ⟨sb, 0, none⟩), .pointer (some ⟨b3, 0, none⟩)] w (StpR e G 106 155 sb L (adoptR (rgl rs) id)) := by
 refine enter1 (args := [.pointer (some ⟨sb, 0, none⟩), .pointer (some ⟨b3, 0, none⟩)]) Tryz.func174 rfl rfl rfl rfl ?_
 refine sq <| rg <| ?_
 refine vl (aB rfl) <| nl <| thn <| sq <| rg <| vl mv <| vl (ldC Ty.o3 rfl (row_cell (l := [Value.int .i64 id]) (hK.own _ _ (List.mem_cons_of_mem _ (List.mem_append_right _ h3))))) <| ?_
 refine cl Tryz.call175 rfl (adoptStep_c hsf ho hK) ?_
 rintro r w hR
 obtain ⟨bb, rfl⟩ := stp_bool hR
 refine vl (aB rfl) <| nl <| thn <| rt <| p1r (a := .bool _) rfl <| ?_
 exact hR
theorem implRingAdopt_c (hK : K e w G L) (hv : RngS G v rs) : Ret Tryz.prog 158 #[v, .int .i64 id] w (fun r w' => ∃ G', VLe G G' ∧ RgA G' r (tk (rgl rs) (Pt id) (adoptR (rgl rs) id)) ∧ K e w' G' L) := by
 have e1 : (∀ x ∈ [id], Pt x) = Pt id := propext ⟨fun h => h id (by simp), fun h x hx => by obtain rfl := List.mem_singleton.1 hx; exact h⟩
 refine enter2 (args := [v, .int .i64 id]) Tryz.func158 rfl rfl rfl rfl ?_
 refine sq <| rg <| ?_
 refine bx hK rfl rfl ?_
 intro b3 w hK
 refine vl asg <| vl (aB rfl) <| nl <| thn <| sq <| rg <| vl mv <| vl (mkf rfl) <| vl (ldO hK Ty.o3 0 rfl rfl rfl) <| ?_
 refine bsN [.tmp 8] hK Tryz.underlying26 Ty.i3 rfl rfl rfl rfl rfl rfl rfl rfl ?_
 intro b9 w hK
 refine cl Tryz.call171 rfl (take_c (F := 174) (cap := [.pointer (some ⟨b3, 0, none⟩)]) (xs := [id]) (o := adoptR (rgl rs) id) Tryz.call174 hK rfl hv (fun G' sb v' rs' A w hG hsf hx hr ho hK => by rw [← hr]; exact RingAdopt1_c (t := 3) (by rw [hr]; exact hsf) ho (List.mem_cons_of_mem _ (List.mem_cons_self ..)) hK)) ?_
 rintro _ w ⟨G1, hG1, hR, hK⟩
 rw [e1] at hR
 obtain ⟨v', qs, rfl, hq, hqr⟩ := hR
 refine vl (ext rfl rfl) <| vl (ext rfl rfl) <| vl asg <| vl (aB rfl) <| nl <| thn <| rt <| p2r (a := _) (b := .bool _) rfl rfl <| ?_
 exact ⟨G1, hG1, ⟨v', qs, rfl, hq, hqr⟩, hK.drop1⟩
theorem RingCloser1_c {t b4 b5 : Nat} (hsf : RgSafe (rgl rs)) (hid : Pt id) (hat : Pt at') (ho : OR G 106 v rs A) (h4 : (b4, row [.int .i64 id] t) ∈ L) (h5 : (b5, row [.int .i64 at'] t) ∈ L) (hK : K e w G ((sb, row [v] 155) :: (A ++ L))) :
  Ret Tryz.prog 176 #[.pointer (some ⟨sb, 0, none⟩), .pointer (some ⟨b4, 0, none⟩), .pointer (some ⟨b5, 0, none⟩)] w (StpR e G 106 155 sb L (closerR (rgl rs) id at')) := by
 refine enter1 (args := [.pointer (some ⟨sb, 0, none⟩), .pointer (some ⟨b4, 0, none⟩), .pointer (some ⟨b5, 0, none⟩)]) Tryz.func176 rfl rfl rfl rfl ?_
 refine sq <| rg <| ?_
 refine vl (aB rfl) <| nl <| thn <| sq <| rg <| vl mv <| vl (ldC Ty.o3 rfl (row_cell (l := [Value.int .i64 id]) (hK.own _ _ (List.mem_cons_of_mem _ (List.mem_append_right _ h4))))) <| vl (ldC Ty.o3 rfl (row_cell (l := [Value.int .i64 at']) (hK.own _ _ (List.mem_cons_of_mem _ (List.mem_append_right _ h5))))) <| ?_
 refine cl Tryz.call177 rfl (closerStep_c hsf hid hat ho hK) ?_
 rintro r w hR
 obtain ⟨bb, rfl⟩ := stp_bool hR
 refine vl (aB rfl) <| nl <| thn <| rt <| p1r (a := .bool _) rfl <| ?_
 exact hR
theorem implRingCloser_c (hK : K e w G L) (hv : RngS G v rs) : Ret Tryz.prog 159 #[v, .int .i64 id, .int .i64 at'] w (fun r w' => ∃ G', VLe G G' ∧ RgA G' r (tk (rgl rs) (Pt id ∧ Pt at') (closerR (rgl rs) id at')) ∧ K e w' G' L) := by
 have e1 : (∀ x ∈ [id, at'], Pt x) = (Pt id ∧ Pt at') := propext ⟨fun h => ⟨h id (by simp), h at' (by simp)⟩, fun h => mk2 h⟩
 refine enter2 (args := [v, .int .i64 id, .int .i64 at']) Tryz.func159 rfl rfl rfl rfl ?_
 refine sq <| rg <| ?_
 refine bx hK rfl rfl ?_
 intro b4 w hK
 refine bx hK rfl rfl ?_
 intro b5 w hK
 refine vl asg <| vl (aB rfl) <| nl <| thn <| sq <| rg <| vl mv <| vl (mkf rfl) <| vl (ldO hK Ty.o3 1 rfl rfl rfl) <| vl (ldO hK Ty.o3 0 rfl rfl rfl) <| ?_
 refine bsN [.tmp 10, .tmp 11] hK Tryz.underlying26 Ty.i3 rfl rfl rfl rfl rfl rfl rfl rfl ?_
 intro b12 w hK
 refine cl Tryz.call171 rfl (take_c (F := 176) (cap := [.pointer (some ⟨b4, 0, none⟩), .pointer (some ⟨b5, 0, none⟩)]) (xs := [id, at']) (o := closerR (rgl rs) id at') Tryz.call176 hK rfl hv (fun G' sb v' rs' A w hG hsf hx hr ho hK => by rw [← hr]; exact RingCloser1_c (t := 3) (by rw [hr]; exact hsf) (hx id (by simp)) (hx at' (by simp)) ho (List.mem_cons_of_mem _ (List.mem_cons_of_mem _ (List.mem_cons_self ..))) (List.mem_cons_of_mem _ (List.mem_cons_self ..)) hK)) ?_
 rintro _ w ⟨G1, hG1, hR, hK⟩
 rw [e1] at hR
 obtain ⟨v', qs, rfl, hq, hqr⟩ := hR
 refine vl (ext rfl rfl) <| vl (ext rfl rfl) <| vl asg <| vl (aB rfl) <| nl <| thn <| rt <| p2r (a := _) (b := .bool _) rfl rfl <| ?_
 exact ⟨G1, hG1, ⟨v', qs, rfl, hq, hqr⟩, hK.drop1.drop1⟩
theorem RingNotify1_c {t b4 b5 : Nat} (hsf : RgSafe (rgl rs)) (hid : Pt id) (hat : Pt at') (ho : OR G 106 v rs A) (h4 : (b4, row [.int .i64 id] t) ∈ L) (h5 : (b5, row [.int .i64 at'] t) ∈ L) (hK : K e w G ((sb, row [v] 155) :: (A ++ L))) :
  Ret Tryz.prog 178 #[.pointer (some ⟨sb, 0, none⟩), .pointer (some ⟨b4, 0, none⟩), .pointer (some ⟨b5, 0, none⟩)] w (StpR e G 106 155 sb L (notifyR (rgl rs) id at')) := by
 refine enter1 (args := [.pointer (some ⟨sb, 0, none⟩), .pointer (some ⟨b4, 0, none⟩), .pointer (some ⟨b5, 0, none⟩)]) Tryz.func178 rfl rfl rfl rfl ?_
 refine sq <| rg <| ?_
 refine vl (aB rfl) <| nl <| thn <| sq <| rg <| vl mv <| vl (ldC Ty.o3 rfl (row_cell (l := [Value.int .i64 id]) (hK.own _ _ (List.mem_cons_of_mem _ (List.mem_append_right _ h4))))) <| vl (ldC Ty.o3 rfl (row_cell (l := [Value.int .i64 at']) (hK.own _ _ (List.mem_cons_of_mem _ (List.mem_append_right _ h5))))) <| ?_
 refine cl Tryz.call179 rfl (notifyStep_c hsf hid hat ho hK) ?_
 rintro r w hR
 obtain ⟨bb, rfl⟩ := stp_bool hR
 refine vl (aB rfl) <| nl <| thn <| rt <| p1r (a := .bool _) rfl <| ?_
 exact hR
theorem implRingNotify_c (hK : K e w G L) (hv : RngS G v rs) : Ret Tryz.prog 160 #[v, .int .i64 id, .int .i64 at'] w (fun r w' => ∃ G', VLe G G' ∧ RgA G' r (tk (rgl rs) (Pt id ∧ Pt at') (notifyR (rgl rs) id at')) ∧ K e w' G' L) := by
 have e1 : (∀ x ∈ [id, at'], Pt x) = (Pt id ∧ Pt at') := propext ⟨fun h => ⟨h id (by simp), h at' (by simp)⟩, fun h => mk2 h⟩
 refine enter2 (args := [v, .int .i64 id, .int .i64 at']) Tryz.func160 rfl rfl rfl rfl ?_
 refine sq <| rg <| ?_
 refine bx hK rfl rfl ?_
 intro b4 w hK
 refine bx hK rfl rfl ?_
 intro b5 w hK
 refine vl asg <| vl (aB rfl) <| nl <| thn <| sq <| rg <| vl mv <| vl (mkf rfl) <| vl (ldO hK Ty.o3 1 rfl rfl rfl) <| vl (ldO hK Ty.o3 0 rfl rfl rfl) <| ?_
 refine bsN [.tmp 10, .tmp 11] hK Tryz.underlying26 Ty.i3 rfl rfl rfl rfl rfl rfl rfl rfl ?_
 intro b12 w hK
 refine cl Tryz.call171 rfl (take_c (F := 178) (cap := [.pointer (some ⟨b4, 0, none⟩), .pointer (some ⟨b5, 0, none⟩)]) (xs := [id, at']) (o := notifyR (rgl rs) id at') Tryz.call178 hK rfl hv (fun G' sb v' rs' A w hG hsf hx hr ho hK => by rw [← hr]; exact RingNotify1_c (t := 3) (by rw [hr]; exact hsf) (hx id (by simp)) (hx at' (by simp)) ho (List.mem_cons_of_mem _ (List.mem_cons_of_mem _ (List.mem_cons_self ..))) (List.mem_cons_of_mem _ (List.mem_cons_self ..)) hK)) ?_
 rintro _ w ⟨G1, hG1, hR, hK⟩
 rw [e1] at hR
 obtain ⟨v', qs, rfl, hq, hqr⟩ := hR
 refine vl (ext rfl rfl) <| vl (ext rfl rfl) <| vl asg <| vl (aB rfl) <| nl <| thn <| rt <| p2r (a := _) (b := .bool _) rfl rfl <| ?_
 exact ⟨G1, hG1, ⟨v', qs, rfl, hq, hqr⟩, hK.drop1.drop1⟩
end
end Go.Proofs.YtoaeogpnbpaojaaGreat
