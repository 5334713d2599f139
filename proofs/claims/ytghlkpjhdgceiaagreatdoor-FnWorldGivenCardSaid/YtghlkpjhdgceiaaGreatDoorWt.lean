/- Laws on one event, key by key: what they return. Conditions: those that each row states. -/
import Derived.Test.YtghlkpjhdgceiaaGreatDoorWl
import Derived.Test.YtghlkpjhdgceiaaGreatDoorCf
namespace Go.Proofs.YtghlkpjhdgceiaaGreatDoor
open Go Go.Ro

section
variable {e w : World} {G : View} {L A : Own} {v u cva cvm : Value} {xs ys code more : List Int} {rs qs : List Rn} {W W' : Wv} {wd wd' : Wd} {a b c k kd id p : Int} {i j bk o rb : Nat} {a0 a1 : Addr}

theorem valueOf_c (hK : K e w G L) (hW : WdS G lc W wd rs) : Ret Tryz.prog 17 #[.agg (wc W).toArray, .int .i64 k] w (fun r w' => r = .int .i64 (vOf wd.items k) ∧ K e w' G L) := by
 have hit := hW.items
 have hle := hit.1.le
 refine enter1 (args := [.agg (wc W).toArray, .int .i64 k]) Tryz.func17 rfl rfl rfl rfl ?_
 refine sq <| rg <| ?_
 refine bx hK rfl rfl ?_
 intro b2 w hK
 refine vl (aI rfl) <| nl <| thn <| sq <| sq <| rg <| vl (aI rfl) <| nl <| thn <| bk <| ?_
 refine lp (σ := Nat) (fun i => [(1, .int .i64 k), (2, .pointer (some ⟨b2, 0, none⟩)), (5, .int .i64 (i : Int))]) (fun i w => i ≤ wd.items.length ∧ vOf (wd.items.drop i) k = vOf wd.items k ∧ K e w G ((b2, row (wc W) 30) :: L)) (fun i => wd.items.length - i) 0 ⟨rfl, rfl, rfl, trivial⟩ ⟨Nat.zero_le _, rfl, hK⟩ ?_
 rintro i g w ⟨hi, hv, hK⟩
 refine sq <| sq <| rg <| ?_
 refine vl (mI rfl) <| vl (fa Tryz.underlying30 rfl Ty.z25 rfl) <| vl (ldO hK Ty.o25 0 rfl rfl rfl) <| vl (ln Tryz.underlying25 rfl hit.len) <| vl (lt rfl rfl) <| nl <| thn <| ?_
 refine cdP rfl (fun hc => ?_) (fun hc => ?_)
 ·have hi' : i < wd.items.length := by omega
  rw [List.drop_eq_getElem_cons hi', vOf_cons] at hv
  refine sk <| thn <| sq <| bk <| sq <| rg <| ?_
  refine vl (fa Tryz.underlying30 rfl Ty.z25 rfl) <| vl (ldO hK Ty.o25 0 rfl rfl rfl) <| vl (mI rfl) <| vl (ixm (m := i) Tryz.underlying25 Ty.s81 rfl hit.1 rfl om om) <| vl (fe Tryz.underlying81 rfl Ty.z3 rfl hit.1 om) <| vl (ldV hK Ty.o3 rfl (hit.cell om 0 rfl)) <| vl (mI rfl) <| vl (eq rfl rfl) <| nl <| thn <| ?_
  refine cdP rfl (fun hx => ?_) (fun hx => ?_)
  ·refine sq <| rg <| ?_
   refine vl (fa Tryz.underlying30 rfl Ty.z25 rfl) <| vl (ldO hK Ty.o25 0 rfl rfl rfl) <| vl (mI rfl) <| vl (ixm (m := i) Tryz.underlying25 Ty.s81 rfl hit.1 rfl om om) <| vl (fe Tryz.underlying81 rfl Ty.z3 rfl hit.1 om) <| vl (ldV hK Ty.o3 rfl (hit.cell om 1 rfl)) <| vl (aI rfl) <| nl <| thn <| rt <| bkr <| thr <| thr <| bkr <| thr <| p1r (a := .int _ _) rfl <| ?_
   exact ⟨by rw [if_pos hx] at hv; rw [← hv], hK.drop1⟩
  ·refine sk <| bkn <| thn <| rg <| ?_
   refine vl (mI rfl) <| vl (ad rfl rfl) <| vl (aI rfl) <| nl <| thn <| ?_
   exact ⟨i + 1, ⟨rfl, rfl, rfl, trivial⟩, ⟨by omega, by rw [if_neg hx] at hv; exact hv, hK⟩, by omega⟩
 ·refine ex <| the <| the <| bkh <| thn <| sq <| rg <| ?_
  refine vl (aI rfl) <| nl <| thn <| rt <| p1r (a := .int _ _) rfl <| ?_
  rw [List.drop_eq_nil_of_le (by omega)] at hv
  exact ⟨by rw [← hv]; rfl, hK.drop1⟩
theorem nodeAtL_c (hK : K e w G L) (hv : RngS G v rs) : Ret Tryz.prog 16 #[v, .int .i64 k] w (fun r w' => (∃ x : Rn, r = .agg (rc x).toArray ∧ one x.2.2.1 = true ∧ (k ∈ ids (rgl rs) → x.1 = k) ∧ (k ∉ ids (rgl rs) → x.1 = -1)) ∧ K e w' G L) := by
 have hs := hv.sl
 have hle := hs.1.le
 refine enterG1 (args := [v, .int .i64 k]) Tryz.func16 rfl rfl rfl rfl ?_
 refine sq <| rg <| ?_
 refine al hK Ty.i43 rfl ?_
 intro b4 w hK
 refine nl <| thn <| sq <| sq <| rg <| vl (aI rfl) <| nl <| thn <| bk <| ?_
 refine lp (σ := Nat) (fun i => [(0, v), (1, .int .i64 k), (4, .pointer (some ⟨b4, 0, none⟩)), (5, .int .i64 (i : Int))]) (fun i w => i ≤ rs.length ∧ k ∉ ids (rgl (rs.take i)) ∧ K e w G ((b4, row [.int .i64 0, .int .i64 0, .slice none 0 0] 43) :: L)) (fun i => rs.length - i) 0 ⟨rfl, rfl, rfl, rfl, trivial⟩ ⟨Nat.zero_le _, by simp [rgl, ids], hK⟩ ?_
 rintro i g w ⟨hi, hn, hK⟩
 refine sq <| sq <| rg <| ?_
 refine vl (mI rfl) <| vl mv <| vl (ln Tryz.underlying23 rfl hs.len) <| vl (lt rfl rfl) <| nl <| thn <| ?_
 refine cdP rfl (fun hc => ?_) (fun hc => ?_)
 ·have hi' : i < rs.length := by omega
  refine sk <| thn <| sq <| bk <| sq <| rg <| ?_
  refine vl mv <| vl (mI rfl) <| vl (ixm (m := i) Tryz.underlying23 Ty.s43 rfl hs.1 rfl om om) <| vl (fe Tryz.underlying43 rfl Ty.z3 rfl hs.1 om) <| vl (ldV hK Ty.o3 rfl (hs.cell om 0 rfl)) <| vl (mI rfl) <| vl (eq rfl rfl) <| nl <| thn <| ?_
  refine cdP rfl (fun hx => ?_) (fun hx => ?_)
  ·refine sq <| rg <| ?_
   refine vl mv <| vl (mI rfl) <| vl (ixm (m := i) Tryz.underlying23 Ty.s43 rfl hs.1 rfl om om) <| vl (lsF hK Ty.a43 Ty.s43 rfl hs om) <| ?_
   refine soS hK Ty.i43 0 rfl rfl rfl rfl (RngS.one hv _ (List.getElem_mem hi')) rfl ?_
   intro w hK
   refine nl <| thn <| rt <| bkr <| thr <| thr <| bkr <| thr <| pg1r (rvS hK Ty.a43 Ty.s43 0 rfl rfl rfl) <| ?_
   exact ⟨⟨rs[i], rfl, (hv.at hi').1.one, fun _ => hx, fun h => absurd (hx ▸ ids_at hi') h⟩, hK.drop1⟩
  ·refine sk <| bkn <| thn <| rg <| ?_
   refine vl (mI rfl) <| vl (ad rfl rfl) <| vl (aI rfl) <| nl <| thn <| ?_
   exact ⟨i + 1, ⟨rfl, rfl, rfl, rfl, trivial⟩, ⟨by omega, by rw [rgl_take_succ hi']; unfold ids at hn ⊢; simp only [List.map_append, List.map_cons, List.map_nil, List.mem_append, List.mem_singleton]; rintro (h | h); exact hn h; exact hx h.symm, hK⟩, by omega⟩
 ·refine ex <| the <| the <| bkh <| thn <| sq <| rg <| ?_
  refine bsN [.const (.int .i64 (-1)), .const (.int .i64 (-1))] hK Tryz.underlying26 Ty.i3 rfl rfl rfl rfl rfl rfl rfl rfl ?_
  intro b23 w hK
  refine vl (bd [(0, _), (2, _)] Ty.p43 Ty.i43 rfl ⟨⟨rfl, rfl⟩, ⟨rfl, rfl⟩, trivial⟩ rfl) <| ?_
  refine soS hK Ty.i43 1 rfl rfl rfl rfl rfl rfl ?_
  intro w hK
  refine nl <| thn <| rt <| pg1r (rvS hK Ty.a43 Ty.s43 1 rfl rfl rfl) <| ?_
  rw [List.take_of_length_le (by omega)] at hn
  exact ⟨⟨(-1, 0, _, []), rfl, rfl, fun h => absurd h hn, fun _ => rfl⟩, hK.drop1.drop1⟩
set_option maxRecDepth 20000 in
set_option maxHeartbeats 1000000 in
theorem FnWorldHandover_c (hK : K e w G L) (hE : ErrS 209 G a0 a1) (hc : BytS G cva code) : Ret Tryz.prog 3 #[cva] w (fun r w' => r = .bool true ∧ ∃ G' L', K e w' G' L' ∧ VLe G G') := by
 refine enter1 (args := [cva]) Tryz.func3 rfl rfl rfl rfl ?_
 refine sq <| rg <| ?_
 refine vl (aB rfl) <| nl <| thn <| sq <| sq <| rg <| vl mv <| vl (ln Tryz.underlying22 rfl hc.len) <| vl (gt rfl rfl) <| nl <| thn <| ?_
 refine cdP rfl (fun hbig => ?_) (fun hbig => ?_)
 ·refine sq <| rg <| ?_
  refine vl (aB rfl) <| nl <| thn <| rt <| thr <| p1r (a := .bool _) rfl <| ?_
  exact ⟨rfl, _, _, hK, VLe.refl _⟩
 ·refine sk <| thn <| sq <| rg <| ?_
  refine vl mv <| ?_
  refine cl Tryz.call9 rfl (DrawWorldDo_c hK hc) ?_
  rintro _ w ⟨G1, W, wd, rs, kd, a, b, c, rfl, hG1, hW, hil, hK⟩
  refine vl mv <| vl (ext rfl rfl) <| vl (ext rfl rfl) <| ?_
  refine al hK Ty.i30 rfl ?_
  intro b3 w hK
  refine al hK Ty.i32 rfl ?_
  intro b4 w hK
  refine soS hK Ty.i30 1 rfl rfl rfl rfl (WdS.one hW) rfl ?_
  intro w hK
  refine soS hK Ty.i32 0 rfl rfl rfl rfl rfl rfl ?_
  intro w hK
  refine nl <| thn <| sq <| rg <| vl (lsO hK Ty.a30 Ty.s30 1 rfl rfl rfl) <| vl (lsO hK Ty.a32 Ty.s32 0 rfl rfl rfl) <| ?_
  refine cl Tryz.call10 rfl (implWorldDo_c (hE.mono hG1) hK hW hil) ?_
  rintro _ w ⟨G2, W2, q2, hG2, rfl, hW2, hK⟩
  refine al hK Ty.i30 rfl ?_
  intro b5 w hK
  refine soS hK Ty.i30 0 rfl rfl rfl rfl (WdS.one hW2) rfl ?_
  intro w hK
  refine nl <| thn <| sq <| rg <| vl (lsO hK Ty.a30 Ty.s30 2 rfl rfl rfl) <| vl (lsO hK Ty.a32 Ty.s32 1 rfl rfl rfl) <| ?_
  refine cl Tryz.call11 rfl (specWorldDo_c hK (hW.mono hG2) hil) ?_
  rintro _ w ⟨G3, W3, q3, hG3, rfl, hW3, hK⟩
  have hG := (hG1.trans hG2).trans hG3
  replace hE := hE.mono hG
  replace hW := hW.mono (hG2.trans hG3)
  replace hW2 := hW2.mono hG3
  refine al hK Ty.i30 rfl ?_
  intro b6 w hK
  refine soS hK Ty.i30 0 rfl rfl rfl rfl (WdS.one hW3) rfl ?_
  intro w hK
  refine nl <| thn <| sq <| sq <| rg <| vl (lsO hK Ty.a30 Ty.s30 1 rfl rfl rfl) <| vl (lsO hK Ty.a30 Ty.s30 0 rfl rfl rfl) <| ?_
  refine cl Tryz.call12 rfl (sameWorld_c hK hW2 hW3) ?_
  rintro _ w ⟨rfl, hK⟩
  refine vl (ntB rfl) <| vl (mB rfl) <| ?_
  refine spl (t := 30) rfl (fun h1 => ?_) (fun h1 => ?_)
  ·exact absurd rfl (not_dec (Eq.mp (Bool.not_eq_true' _) h1))
  ·refine gy rfl <| vl (lsO hK Ty.a30 Ty.s30 3 rfl rfl rfl) <| gy rfl <| ?_
   refine cl Tryz.call13 rfl (specWorldValid_c hK hW om) ?_
   rintro _ w ⟨rfl, hK⟩
   refine gy rfl <| vl (ntB rfl) <| vl (pk rfl) <| nl <| thn <| ?_
   refine cdB rfl (fun h2 => ?_) (fun h2 => ?_)
   ·refine sq <| rg <| ?_
    refine vl (lsO hK Ty.a30 Ty.s30 1 rfl rfl rfl) <| vl (lsO hK Ty.a30 Ty.s30 0 rfl rfl rfl) <| ?_
    refine cl Tryz.call12 rfl (sameWorld_c hK hW2 hW3) ?_
    rintro _ w ⟨rfl, hK⟩
    refine vl (aB rfl) <| nl <| thn <| rt <| thr <| p1r (a := .bool _) rfl <| ?_
    exact ⟨congrArg Value.bool (dec_t rfl), _, _, hK, hG⟩
   ·have hok : WdOk wd := of_dec (Eq.mp (Bool.not_eq_false' _) h2)
    rw [wdF_yes hok] at hW2 hW3
    refine sk <| thn <| sq <| sq <| rg <| ?_
    refine vl (aI rfl) <| nl <| thn <| bk <| ?_
    have e1 := hW.now
    have hd := doW_ok hok kd a b c
    refine lp (σ := Nat) (fun i => [(3, .pointer (some ⟨b3, 0, none⟩)), (4, .pointer (some ⟨b4, 0, none⟩)), (5, .pointer (some ⟨b5, 0, none⟩)), (7, .int .i64 (i : Int))]) (fun i w => i ≤ 64 ∧ K e w G3 ((b6, row (wc W3) 30) :: (b5, row (wc W2) 30) :: (b4, row (ec kd a b c) 32) :: (b3, row (wc W) 30) :: L)) (fun i => 64 - i) 0 ⟨rfl, rfl, rfl, rfl, trivial⟩ ⟨Nat.zero_le _, hK⟩ ?_
    rintro i g w ⟨hi, hK⟩
    refine sq <| sq <| rg <| ?_
    refine vl (mI rfl) <| vl (lt rfl rfl) <| nl <| thn <| ?_
    refine cdP rfl (fun hc => ?_) (fun hc => ?_)
    ·have hpt : Pt (i : Int) := by unfold Pt; omega
     have hl := handover_law hok kd a b c (i : Int)
     refine sk <| thn <| sq <| bk <| sq <| rg <| ?_
     refine vl (fa Tryz.underlying30 rfl Ty.z24 rfl) <| vl (ldO hK Ty.o24 3 rfl rfl rfl) <| vl (mI rfl) <| ?_
     refine cl Tryz.call14 rfl (holder_c hK hW.leases hok.wda.ls hpt) ?_
     rintro _ w ⟨rfl, hK⟩
     refine vl mv <| vl (ext rfl rfl) <| vl (ext rfl rfl) <| vl (aI rfl) <| vl (aI rfl) <| nl <| thn <| sq <| rg <| vl (fa Tryz.underlying30 rfl Ty.z24 rfl) <| vl (ldO hK Ty.o24 1 rfl rfl rfl) <| vl (mI rfl) <| ?_
     refine cl Tryz.call14 rfl (holder_c hK hW2.leases hd.wda.ls hpt) ?_
     rintro _ w ⟨rfl, hK⟩
     refine vl mv <| vl (ext rfl rfl) <| vl (ext rfl rfl) <| vl (aI rfl) <| vl (aI rfl) <| nl <| thn <| sq <| rg <| vl (mI rfl) <| vl (mI rfl) <| vl (ne rfl rfl) <| vl (mB rfl) <| ?_
     refine splP (t := 59) rfl (fun h59 => ?_) (fun h59 => ?_)
     ·skip
      refine gy rfl <| vl (fa Tryz.underlying32 rfl Ty.z3 rfl) <| gy rfl <| vl (ldO hK Ty.o3 2 rfl rfl rfl) <| gy rfl <| vl (ne rfl rfl) <| gy rfl <| vl (mB rfl) <| ?_
      refine splP (t := 63) rfl (fun h63 => ?_) (fun h63 => ?_)
      ·skip
       refine gn rfl <| gn rfl <| gn rfl <| gn rfl <| gy rfl <| vl (pk rfl) <| gy rfl <| vl (mB rfl) <| gn rfl <| gn rfl <| gn rfl <| gn rfl <| gy rfl <| vl (pk rfl) <| vl (pk rfl) <| vl (mB rfl) <| gy rfl <| vl (fa Tryz.underlying32 rfl Ty.z3 rfl) <| gy rfl <| vl (ldO hK Ty.o3 2 rfl rfl rfl) <| gy rfl <| vl (ne rfl rfl) <| gy rfl <| vl (mB rfl) <| ?_
       refine splP (t := 80) rfl (fun h80 => ?_) (fun h80 => ?_)
       ·skip
        refine gn rfl <| gn rfl <| gn rfl <| gn rfl <| gy rfl <| vl (pk rfl) <| vl (pk rfl) <| nl <| thn <| ?_
        refine cdt rfl ?_
        refine sq <| rg <| ?_
        refine vl (aB rfl) <| nl <| thn <| rt <| bkr <| thr <| thr <| bkr <| thr <| p1r (a := .bool _) rfl <| ?_
        exfalso; omega
       ·skip
        refine gy rfl <| vl (mI rfl) <| gy rfl <| vl (fa Tryz.underlying30 rfl Ty.z3 rfl) <| gy rfl <| vl (ldO hK Ty.o3 3 rfl rfl rfl) <| gy rfl <| vl (ge rfl rfl) <| gy rfl <| vl (pk rfl) <| vl (pk rfl) <| nl <| thn <| ?_
        refine cdP rfl (fun hc => ?_) (fun hc => ?_)
        ·skip
         refine sq <| rg <| ?_
         refine vl (aB rfl) <| nl <| thn <| rt <| bkr <| thr <| thr <| bkr <| thr <| p1r (a := .bool _) rfl <| ?_
         exfalso; omega
        ·skip
         refine sk <| bkn <| thn <| rg <| ?_
         refine vl (mI rfl) <| vl (ad rfl rfl) <| vl (aI rfl) <| nl <| thn <| ?_
         exact ⟨i + 1, ⟨rfl, rfl, rfl, rfl, trivial⟩, ⟨by omega, hK⟩, by omega⟩
      ·skip
       refine gy rfl <| vl (fa Tryz.underlying32 rfl Ty.z3 rfl) <| gy rfl <| vl (ldO hK Ty.o3 2 rfl rfl rfl) <| gy rfl <| vl (mI rfl) <| gy rfl <| vl (ne rfl rfl) <| gy rfl <| vl (pk rfl) <| gy rfl <| vl (mB rfl) <| ?_
       refine splP (t := 69) rfl (fun h69 => ?_) (fun h69 => ?_)
       ·skip
        refine gn rfl <| gn rfl <| gn rfl <| gn rfl <| gy rfl <| vl (pk rfl) <| vl (pk rfl) <| vl (mB rfl) <| gy rfl <| vl (fa Tryz.underlying32 rfl Ty.z3 rfl) <| gy rfl <| vl (ldO hK Ty.o3 2 rfl rfl rfl) <| gy rfl <| vl (ne rfl rfl) <| gy rfl <| vl (mB rfl) <| ?_
        refine splP (t := 80) rfl (fun h80 => ?_) (fun h80 => ?_)
        ·skip
         refine gn rfl <| gn rfl <| gn rfl <| gn rfl <| gy rfl <| vl (pk rfl) <| vl (pk rfl) <| nl <| thn <| ?_
         refine cdt rfl ?_
         refine sq <| rg <| ?_
         refine vl (aB rfl) <| nl <| thn <| rt <| bkr <| thr <| thr <| bkr <| thr <| p1r (a := .bool _) rfl <| ?_
         exfalso; omega
        ·skip
         refine gy rfl <| vl (mI rfl) <| gy rfl <| vl (fa Tryz.underlying30 rfl Ty.z3 rfl) <| gy rfl <| vl (ldO hK Ty.o3 3 rfl rfl rfl) <| gy rfl <| vl (ge rfl rfl) <| gy rfl <| vl (pk rfl) <| vl (pk rfl) <| nl <| thn <| ?_
         refine cdP rfl (fun hc => ?_) (fun hc => ?_)
         ·skip
          refine sq <| rg <| ?_
          refine vl (aB rfl) <| nl <| thn <| rt <| bkr <| thr <| thr <| bkr <| thr <| p1r (a := .bool _) rfl <| ?_
          exfalso; omega
         ·skip
          refine sk <| bkn <| thn <| rg <| ?_
          refine vl (mI rfl) <| vl (ad rfl rfl) <| vl (aI rfl) <| nl <| thn <| ?_
          exact ⟨i + 1, ⟨rfl, rfl, rfl, rfl, trivial⟩, ⟨by omega, hK⟩, by omega⟩
       ·skip
        refine gy rfl <| vl (mI rfl) <| gy rfl <| vl (fa Tryz.underlying30 rfl Ty.z3 rfl) <| gy rfl <| vl (ldO hK Ty.o3 3 rfl rfl rfl) <| gy rfl <| vl (lt rfl rfl) <| gy rfl <| vl (pk rfl) <| vl (pk rfl) <| vl (mB rfl) <| ?_
        refine splP (t := 76) rfl (fun h76 => ?_) (fun h76 => ?_)
        ·skip
         refine gy rfl <| vl (fa Tryz.underlying32 rfl Ty.z3 rfl) <| gy rfl <| vl (ldO hK Ty.o3 2 rfl rfl rfl) <| gy rfl <| vl (ne rfl rfl) <| gy rfl <| vl (mB rfl) <| ?_
         refine splP (t := 80) rfl (fun h80 => ?_) (fun h80 => ?_)
         ·skip
          refine gn rfl <| gn rfl <| gn rfl <| gn rfl <| gy rfl <| vl (pk rfl) <| vl (pk rfl) <| nl <| thn <| ?_
          refine cdt rfl ?_
          refine sq <| rg <| ?_
          refine vl (aB rfl) <| nl <| thn <| rt <| bkr <| thr <| thr <| bkr <| thr <| p1r (a := .bool _) rfl <| ?_
          exfalso; omega
         ·skip
          refine gy rfl <| vl (mI rfl) <| gy rfl <| vl (fa Tryz.underlying30 rfl Ty.z3 rfl) <| gy rfl <| vl (ldO hK Ty.o3 3 rfl rfl rfl) <| gy rfl <| vl (ge rfl rfl) <| gy rfl <| vl (pk rfl) <| vl (pk rfl) <| nl <| thn <| ?_
          refine cdP rfl (fun hc => ?_) (fun hc => ?_)
          ·skip
           refine sq <| rg <| ?_
           refine vl (aB rfl) <| nl <| thn <| rt <| bkr <| thr <| thr <| bkr <| thr <| p1r (a := .bool _) rfl <| ?_
           exfalso; omega
          ·skip
           refine sk <| bkn <| thn <| rg <| ?_
           refine vl (mI rfl) <| vl (ad rfl rfl) <| vl (aI rfl) <| nl <| thn <| ?_
           exact ⟨i + 1, ⟨rfl, rfl, rfl, rfl, trivial⟩, ⟨by omega, hK⟩, by omega⟩
        ·skip
         refine gn rfl <| gn rfl <| gn rfl <| gn rfl <| gu rfl <| gu rfl <| gu rfl <| gu rfl <| gn rfl <| vl (pk rfl) <| nl <| thn <| ?_
         refine cdf rfl ?_
         refine sk <| bkn <| thn <| rg <| ?_
         refine vl (mI rfl) <| vl (ad rfl rfl) <| vl (aI rfl) <| nl <| thn <| ?_
         exact ⟨i + 1, ⟨rfl, rfl, rfl, rfl, trivial⟩, ⟨by omega, hK⟩, by omega⟩
     ·skip
      refine gn rfl <| gn rfl <| gn rfl <| gn rfl <| gu rfl <| gu rfl <| gu rfl <| gu rfl <| gn rfl <| gn rfl <| gu rfl <| gu rfl <| gu rfl <| gu rfl <| gn rfl <| vl (pk rfl) <| vl (mB rfl) <| gn rfl <| gn rfl <| gn rfl <| gn rfl <| gu rfl <| gu rfl <| gu rfl <| gu rfl <| gn rfl <| vl (pk rfl) <| nl <| thn <| ?_
      refine cdf rfl ?_
      refine sk <| bkn <| thn <| rg <| ?_
      refine vl (mI rfl) <| vl (ad rfl rfl) <| vl (aI rfl) <| nl <| thn <| ?_
      exact ⟨i + 1, ⟨rfl, rfl, rfl, rfl, trivial⟩, ⟨by omega, hK⟩, by omega⟩
    ·refine ex <| the <| the <| bkh <| thn <| sq <| rg <| ?_
     refine vl (aB rfl) <| nl <| thn <| rt <| p1r (a := .bool _) rfl <| ?_
     exact ⟨rfl, _, _, hK, hG⟩
    
set_option maxRecDepth 20000 in
set_option maxHeartbeats 1000000 in
theorem FnWorldSince_c (hK : K e w G L) (hE : ErrS 209 G a0 a1) (hc : BytS G cva code) : Ret Tryz.prog 8 #[cva] w (fun r w' => r = .bool true ∧ ∃ G' L', K e w' G' L' ∧ VLe G G') := by
 refine enter1 (args := [cva]) Tryz.func8 rfl rfl rfl rfl ?_
 refine sq <| rg <| ?_
 refine vl (aB rfl) <| nl <| thn <| sq <| sq <| rg <| vl mv <| vl (ln Tryz.underlying22 rfl hc.len) <| vl (gt rfl rfl) <| nl <| thn <| ?_
 refine cdP rfl (fun hbig => ?_) (fun hbig => ?_)
 ·refine sq <| rg <| ?_
  refine vl (aB rfl) <| nl <| thn <| rt <| thr <| p1r (a := .bool _) rfl <| ?_
  exact ⟨rfl, _, _, hK, VLe.refl _⟩
 ·refine sk <| thn <| sq <| rg <| ?_
  refine vl mv <| ?_
  refine cl Tryz.call9 rfl (DrawWorldDo_c hK hc) ?_
  rintro _ w ⟨G1, W, wd, rs, kd, a, b, c, rfl, hG1, hW, hil, hK⟩
  refine vl mv <| vl (ext rfl rfl) <| vl (ext rfl rfl) <| ?_
  refine al hK Ty.i30 rfl ?_
  intro b3 w hK
  refine al hK Ty.i32 rfl ?_
  intro b4 w hK
  refine soS hK Ty.i30 1 rfl rfl rfl rfl (WdS.one hW) rfl ?_
  intro w hK
  refine soS hK Ty.i32 0 rfl rfl rfl rfl rfl rfl ?_
  intro w hK
  refine nl <| thn <| sq <| rg <| vl (lsO hK Ty.a30 Ty.s30 1 rfl rfl rfl) <| vl (lsO hK Ty.a32 Ty.s32 0 rfl rfl rfl) <| ?_
  refine cl Tryz.call10 rfl (implWorldDo_c (hE.mono hG1) hK hW hil) ?_
  rintro _ w ⟨G2, W2, q2, hG2, rfl, hW2, hK⟩
  refine al hK Ty.i30 rfl ?_
  intro b5 w hK
  refine soS hK Ty.i30 0 rfl rfl rfl rfl (WdS.one hW2) rfl ?_
  intro w hK
  refine nl <| thn <| sq <| rg <| vl (lsO hK Ty.a30 Ty.s30 2 rfl rfl rfl) <| vl (lsO hK Ty.a32 Ty.s32 1 rfl rfl rfl) <| ?_
  refine cl Tryz.call11 rfl (specWorldDo_c hK (hW.mono hG2) hil) ?_
  rintro _ w ⟨G3, W3, q3, hG3, rfl, hW3, hK⟩
  have hG := (hG1.trans hG2).trans hG3
  replace hE := hE.mono hG
  replace hW := hW.mono (hG2.trans hG3)
  replace hW2 := hW2.mono hG3
  refine al hK Ty.i30 rfl ?_
  intro b6 w hK
  refine soS hK Ty.i30 0 rfl rfl rfl rfl (WdS.one hW3) rfl ?_
  intro w hK
  refine nl <| thn <| sq <| sq <| rg <| vl (lsO hK Ty.a30 Ty.s30 1 rfl rfl rfl) <| vl (lsO hK Ty.a30 Ty.s30 0 rfl rfl rfl) <| ?_
  refine cl Tryz.call12 rfl (sameWorld_c hK hW2 hW3) ?_
  rintro _ w ⟨rfl, hK⟩
  refine vl (ntB rfl) <| vl (mB rfl) <| ?_
  refine spl (t := 27) rfl (fun h1 => ?_) (fun h1 => ?_)
  ·exact absurd rfl (not_dec (Eq.mp (Bool.not_eq_true' _) h1))
  ·refine gy rfl <| vl (lsO hK Ty.a30 Ty.s30 3 rfl rfl rfl) <| gy rfl <| ?_
   refine cl Tryz.call13 rfl (specWorldValid_c hK hW om) ?_
   rintro _ w ⟨rfl, hK⟩
   refine gy rfl <| vl (ntB rfl) <| vl (pk rfl) <| nl <| thn <| ?_
   refine cdB rfl (fun h2 => ?_) (fun h2 => ?_)
   ·refine sq <| rg <| ?_
    refine vl (lsO hK Ty.a30 Ty.s30 1 rfl rfl rfl) <| vl (lsO hK Ty.a30 Ty.s30 0 rfl rfl rfl) <| ?_
    refine cl Tryz.call12 rfl (sameWorld_c hK hW2 hW3) ?_
    rintro _ w ⟨rfl, hK⟩
    refine vl (aB rfl) <| nl <| thn <| rt <| thr <| p1r (a := .bool _) rfl <| ?_
    exact ⟨congrArg Value.bool (dec_t rfl), _, _, hK, hG⟩
   ·have hok : WdOk wd := of_dec (Eq.mp (Bool.not_eq_false' _) h2)
    rw [wdF_yes hok] at hW2 hW3
    refine sk <| thn <| sq <| rg <| ?_
    refine vl (lsO hK Ty.a30 Ty.s30 3 rfl rfl rfl) <| vl (bd [(0, _)] Ty.p32 Ty.i32 rfl ⟨⟨rfl, rfl⟩, trivial⟩ rfl) <| ?_
    refine cl Tryz.call10 rfl (implWorldDo_c (kd := 13) (a := 0) (b := 0) (c := 0) hE hK hW hil) ?_
    rintro _ w ⟨G4, W4, q4, hG4, rfl, hW4, hK⟩
    rw [wdF_yes hok] at hW4
    have hW := hW.mono hG4
    have hW2 := hW2.mono hG4
    have hd := doW_ok hok kd a b c
    have hb := begin_law wd 0 0 0
    have hnx := hW4.next
    have hle := hW2.since.le
    refine al hK Ty.i30 rfl ?_
    intro b7 w hK
    refine soS hK Ty.i30 0 rfl rfl rfl rfl (WdS.one hW4) rfl ?_
    intro w hK
    refine nl <| thn <| sq <| sq <| rg <| vl (aI rfl) <| nl <| thn <| bk <| ?_
    refine lp (σ := Nat) (fun i => [(3, .pointer (some ⟨b3, 0, none⟩)), (4, .pointer (some ⟨b4, 0, none⟩)), (5, .pointer (some ⟨b5, 0, none⟩)), (7, .pointer (some ⟨b7, 0, none⟩)), (8, .int .i64 (i : Int))]) (fun i w => i ≤ (doW wd kd a b c).since.length ∧ K e w G4 ((b7, row (wc W4) 30) :: (b6, row (wc W3) 30) :: (b5, row (wc W2) 30) :: (b4, row (ec kd a b c) 32) :: (b3, row (wc W) 30) :: L)) (fun i => (doW wd kd a b c).since.length - i) 0 ⟨rfl, rfl, rfl, rfl, rfl, trivial⟩ ⟨Nat.zero_le _, hK⟩ ?_
    rintro i g w ⟨hi, hK⟩
    refine sq <| sq <| rg <| ?_
    refine vl (mI rfl) <| vl (fa Tryz.underlying30 rfl Ty.z26 rfl) <| vl (ldO hK Ty.o26 2 rfl rfl rfl) <| vl (ln Tryz.underlying26 rfl hW2.since.len) <| vl (lt rfl rfl) <| nl <| thn <| ?_
    refine cdP rfl (fun hc => ?_) (fun hc => ?_)
    ·have hi' : i < (doW wd kd a b c).since.length := by omega
     have hm := List.getElem_mem hi'
     have hs1 := since_law wd kd a b c
     have hv : 0 ≤ vOf (doW wd kd a b c).items (doW wd kd a b c).since[i] := vOf_ge hd.wda.it (hd.2.2.2.2.2.2 _ hm).1
     refine sk <| thn <| sq <| bk <| sq <| ?_
     refine rgs (fun w => K e w G4 ((b7, row (wc W4) 30) :: (b5, row (wc W2) 30) :: (b4, row (ec kd a b c) 32) :: (b3, row (wc W) 30) :: L)) (fun w => K _ w _ _) [U,U,U,U,U,U,U,U,U,U,U,U,U,U,U,U,U,U,U,U,U,U,U,U] 24 Ty.mixed rfl rfl (hK.drawn _) ?_
     intro w hK
     have hS : (fun w => K e w G4 ((b7, row (wc W4) 30) :: (b5, row (wc W2) 30) :: (b4, row (ec kd a b c) 32) :: (b3, row (wc W) 30) :: L)) w := K.sl hK
     refine xt (i := 0) rfl kr rfl rfl (fun w hK => (fa Tryz.underlying32 rfl Ty.z3 rfl)) hS <| ?_; refine xt (i := 1) rfl kr rfl rfl (fun w hK => (ldO hK Ty.o3 2 rfl rfl rfl)) hS <| ?_; refine xt (i := 2) rfl kr rfl rfl (fun w hK => (ne rfl rfl)) hS <| ?_; refine xt (i := 3) rfl kr rfl rfl (fun w hK => (mB rfl)) hS <| ?_
     refine xsplP (t := 48) rfl (fun h48 => ?_) (fun h48 => ?_)
     ·skip
      refine xt (i := 4) rfl kr rfl rfl (fun w hK => (fa Tryz.underlying30 rfl Ty.z26 rfl)) hS <| ?_; refine xt (i := 5) rfl kr rfl rfl (fun w hK => (ldO hK Ty.o26 3 rfl rfl rfl)) hS <| ?_; refine xt (i := 6) rfl kr rfl rfl (fun w hK => (fa Tryz.underlying30 rfl Ty.z26 rfl)) hS <| ?_; refine xt (i := 7) rfl kr rfl rfl (fun w hK => (ldO hK Ty.o26 1 rfl rfl rfl)) hS <| ?_; refine xt (i := 8) rfl kr rfl rfl (fun w hK => (mI rfl)) hS <| ?_; refine xt (i := 9) rfl kr rfl rfl (fun w hK => (ixm1 (m := i) Tryz.underlying26 Ty.s3 rfl hW2.since.1 rfl om om)) hS <| ?_; refine xt (i := 10) rfl kr rfl rfl (fun w hK => (ldV hK Ty.o3 rfl (by exact hW2.since.at om))) hS <| ?_
      refine xe (i := 11) kr rfl rfl ?_
      refine gy rfl <| ?_
      refine cl Tryz.call18 rfl (hasInt_c hK hW.since) ?_
      rintro _ w ⟨rfl, hK⟩
      refine xnk (K.sl hK) fun hS => ?_
      refine xt (i := 12) rfl kr rfl rfl (fun w hK => (nt rfl)) hS <| ?_; refine xt (i := 13) rfl kr rfl rfl (fun w hK => (pk rfl)) hS <| ?_; refine xt (i := 14) rfl kr rfl rfl (fun w hK => (mB rfl)) hS <| ?_
      refine xsplP (t := 59) rfl (fun h59 => ?_) (fun h59 => ?_)
      ·skip
       refine xu (i := 15) rfl kr rfl rfl hS <| xu (i := 16) rfl kr rfl rfl hS <| xu (i := 17) rfl kr rfl rfl hS <| xu (i := 18) rfl kr rfl rfl hS <| xu (i := 19) rfl kr rfl rfl hS <| xu (i := 20) rfl kr rfl rfl hS <| xu (i := 21) rfl kr rfl rfl hS <| xu (i := 22) rfl kr rfl rfl hS <| xt (i := 23) rfl kr rfl rfl (fun w hK => (pk rfl)) hS <| ?_; refine xd kr <| thn <| ?_
       refine cdt rfl ?_
       refine sq <| rg <| ?_
       refine vl (aB rfl) <| nl <| thn <| rt <| bkr <| thr <| thr <| bkr <| thr <| p1r (a := .bool _) rfl <| ?_
       first | (exfalso; omega) | exact absurd (hs1 h48 _ hm) h59
      ·skip
       refine xt (i := 15) rfl kr rfl rfl (fun w hK => (lsO hK Ty.a30 Ty.s30 1 rfl rfl rfl)) hS <| ?_; refine xt (i := 16) rfl kr rfl rfl (fun w hK => (fa Tryz.underlying30 rfl Ty.z26 rfl)) hS <| ?_; refine xt (i := 17) rfl kr rfl rfl (fun w hK => (ldO hK Ty.o26 1 rfl rfl rfl)) hS <| ?_; refine xt (i := 18) rfl kr rfl rfl (fun w hK => (mI rfl)) hS <| ?_; refine xt (i := 19) rfl kr rfl rfl (fun w hK => (ixm1 (m := i) Tryz.underlying26 Ty.s3 rfl hW2.since.1 rfl om om)) hS <| ?_; refine xt (i := 20) rfl kr rfl rfl (fun w hK => (ldV hK Ty.o3 rfl (by exact hW2.since.at om))) hS <| ?_
       refine xe (i := 21) kr rfl rfl ?_
       refine gy rfl <| ?_
       refine cl Tryz.call17 rfl (valueOf_c hK hW2) ?_
       rintro _ w ⟨rfl, hK⟩
       refine xnk (K.sl hK) fun hS => ?_
       refine xt (i := 22) rfl kr rfl rfl (fun w hK => (lt rfl rfl)) hS <| ?_; refine xt (i := 23) rfl kr rfl rfl (fun w hK => (pk rfl)) hS <| ?_; refine xd kr <| thn <| ?_
       refine cdP rfl (fun hc => ?_) (fun hc => ?_)
       ·skip
        refine sq <| rg <| ?_
        refine vl (aB rfl) <| nl <| thn <| rt <| bkr <| thr <| thr <| bkr <| thr <| p1r (a := .bool _) rfl <| ?_
        first | (exfalso; omega) | exact absurd (hs1 h48 _ hm) h59
       ·skip
        refine sk <| bkn <| thn <| rg <| ?_
        refine vl (mI rfl) <| vl (ad rfl rfl) <| vl (aI rfl) <| nl <| thn <| ?_
        exact ⟨i + 1, ⟨rfl, rfl, rfl, rfl, rfl, trivial⟩, ⟨by omega, hK⟩, by omega⟩
     ·skip
      refine xu (i := 4) rfl kr rfl rfl hS <| xu (i := 5) rfl kr rfl rfl hS <| xu (i := 6) rfl kr rfl rfl hS <| xu (i := 7) rfl kr rfl rfl hS <| xu (i := 8) rfl kr rfl rfl hS <| xu (i := 9) rfl kr rfl rfl hS <| xu (i := 10) rfl kr rfl rfl hS <| xu (i := 11) rfl kr rfl rfl hS <| xu (i := 12) rfl kr rfl rfl hS <| xt (i := 13) rfl kr rfl rfl (fun w hK => (pk rfl)) hS <| ?_; refine xt (i := 14) rfl kr rfl rfl (fun w hK => (mB rfl)) hS <| ?_; refine xt (i := 15) rfl kr rfl rfl (fun w hK => (lsO hK Ty.a30 Ty.s30 1 rfl rfl rfl)) hS <| ?_; refine xt (i := 16) rfl kr rfl rfl (fun w hK => (fa Tryz.underlying30 rfl Ty.z26 rfl)) hS <| ?_; refine xt (i := 17) rfl kr rfl rfl (fun w hK => (ldO hK Ty.o26 1 rfl rfl rfl)) hS <| ?_; refine xt (i := 18) rfl kr rfl rfl (fun w hK => (mI rfl)) hS <| ?_; refine xt (i := 19) rfl kr rfl rfl (fun w hK => (ixm1 (m := i) Tryz.underlying26 Ty.s3 rfl hW2.since.1 rfl om om)) hS <| ?_; refine xt (i := 20) rfl kr rfl rfl (fun w hK => (ldV hK Ty.o3 rfl (by exact hW2.since.at om))) hS <| ?_
      refine xe (i := 21) kr rfl rfl ?_
      refine gy rfl <| ?_
      refine cl Tryz.call17 rfl (valueOf_c hK hW2) ?_
      rintro _ w ⟨rfl, hK⟩
      refine xnk (K.sl hK) fun hS => ?_
      refine xt (i := 22) rfl kr rfl rfl (fun w hK => (lt rfl rfl)) hS <| ?_; refine xt (i := 23) rfl kr rfl rfl (fun w hK => (pk rfl)) hS <| ?_; refine xd kr <| thn <| ?_
      refine cdP rfl (fun hc => ?_) (fun hc => ?_)
      ·skip
       refine sq <| rg <| ?_
       refine vl (aB rfl) <| nl <| thn <| rt <| bkr <| thr <| thr <| bkr <| thr <| p1r (a := .bool _) rfl <| ?_
       first | (exfalso; omega) | exact absurd (hs1 h48 _ hm) h59
      ·skip
       refine sk <| bkn <| thn <| rg <| ?_
       refine vl (mI rfl) <| vl (ad rfl rfl) <| vl (aI rfl) <| nl <| thn <| ?_
       exact ⟨i + 1, ⟨rfl, rfl, rfl, rfl, rfl, trivial⟩, ⟨by omega, hK⟩, by omega⟩
    ·refine ex <| the <| the <| bkh <| thn <| sq <| rg <| ?_
     refine vl (fa Tryz.underlying30 rfl Ty.z26 rfl) <| vl (ldO hK Ty.o26 0 rfl rfl rfl) <| vl (ln Tryz.underlying26 rfl hW4.since.len) <| vl (fa Tryz.underlying30 rfl Ty.z25 rfl) <| vl (ldO hK Ty.o25 4 rfl rfl rfl) <| vl (ln Tryz.underlying25 rfl hW.items.len) <| vl (eq rfl rfl) <| vl (mB rfl) <| ?_
     refine splP (t := 76) rfl (fun h6 => ?_) (fun h6 => ?_)
     ·refine gy rfl <| vl (fa Tryz.underlying30 rfl Ty.z28 rfl) <| gy rfl <| vl (fa Tryz.underlying28 rfl Ty.z3 rfl) <| gy rfl <| vl (ldO hK Ty.o3 0 rfl rfl rfl) <| gy rfl <| vl (eq rfl rfl) <| vl (pk rfl) <| vl (aB rfl) <| nl <| thn <| rt <| p1r (a := .bool _) rfl <| ?_
      exact ⟨congrArg Value.bool (decide_eq_true (by rw [hnx]; exact hb.2)), _, _, hK, hG.trans hG4⟩
     ·exact absurd (by have := hb.1; omega) h6
    
set_option maxRecDepth 20000 in
set_option maxHeartbeats 1000000 in
theorem FnWorldChange_c (hK : K e w G L) (hE : ErrS 209 G a0 a1) (hc : BytS G cva code) : Ret Tryz.prog 7 #[cva] w (fun r w' => r = .bool true ∧ ∃ G' L', K e w' G' L' ∧ VLe G G') := by
 refine enter1 (args := [cva]) Tryz.func7 rfl rfl rfl rfl ?_
 refine sq <| rg <| ?_
 refine vl (aB rfl) <| nl <| thn <| sq <| sq <| rg <| vl mv <| vl (ln Tryz.underlying22 rfl hc.len) <| vl (gt rfl rfl) <| nl <| thn <| ?_
 refine cdP rfl (fun hbig => ?_) (fun hbig => ?_)
 ·refine sq <| rg <| ?_
  refine vl (aB rfl) <| nl <| thn <| rt <| thr <| p1r (a := .bool _) rfl <| ?_
  exact ⟨rfl, _, _, hK, VLe.refl _⟩
 ·refine sk <| thn <| sq <| rg <| ?_
  refine vl mv <| ?_
  refine cl Tryz.call9 rfl (DrawWorldDo_c hK hc) ?_
  rintro _ w ⟨G1, W, wd, rs, kd, a, b, c, rfl, hG1, hW, hil, hK⟩
  refine vl mv <| vl (ext rfl rfl) <| vl (ext rfl rfl) <| ?_
  refine al hK Ty.i30 rfl ?_
  intro b3 w hK
  refine al hK Ty.i32 rfl ?_
  intro b4 w hK
  refine soS hK Ty.i30 1 rfl rfl rfl rfl (WdS.one hW) rfl ?_
  intro w hK
  refine soS hK Ty.i32 0 rfl rfl rfl rfl rfl rfl ?_
  intro w hK
  refine nl <| thn <| sq <| rg <| vl (lsO hK Ty.a30 Ty.s30 1 rfl rfl rfl) <| vl (lsO hK Ty.a32 Ty.s32 0 rfl rfl rfl) <| ?_
  refine cl Tryz.call10 rfl (implWorldDo_c (hE.mono hG1) hK hW hil) ?_
  rintro _ w ⟨G2, W2, q2, hG2, rfl, hW2, hK⟩
  refine al hK Ty.i30 rfl ?_
  intro b5 w hK
  refine soS hK Ty.i30 0 rfl rfl rfl rfl (WdS.one hW2) rfl ?_
  intro w hK
  refine nl <| thn <| sq <| rg <| vl (lsO hK Ty.a30 Ty.s30 2 rfl rfl rfl) <| vl (lsO hK Ty.a32 Ty.s32 1 rfl rfl rfl) <| ?_
  refine cl Tryz.call11 rfl (specWorldDo_c hK (hW.mono hG2) hil) ?_
  rintro _ w ⟨G3, W3, q3, hG3, rfl, hW3, hK⟩
  have hG := (hG1.trans hG2).trans hG3
  replace hE := hE.mono hG
  replace hW := hW.mono (hG2.trans hG3)
  replace hW2 := hW2.mono hG3
  refine al hK Ty.i30 rfl ?_
  intro b6 w hK
  refine soS hK Ty.i30 0 rfl rfl rfl rfl (WdS.one hW3) rfl ?_
  intro w hK
  refine nl <| thn <| sq <| sq <| rg <| vl (lsO hK Ty.a30 Ty.s30 1 rfl rfl rfl) <| vl (lsO hK Ty.a30 Ty.s30 0 rfl rfl rfl) <| ?_
  refine cl Tryz.call12 rfl (sameWorld_c hK hW2 hW3) ?_
  rintro _ w ⟨rfl, hK⟩
  refine vl (ntB rfl) <| vl (mB rfl) <| ?_
  refine spl (t := 26) rfl (fun h1 => ?_) (fun h1 => ?_)
  ·exact absurd rfl (not_dec (Eq.mp (Bool.not_eq_true' _) h1))
  ·refine gy rfl <| vl (lsO hK Ty.a30 Ty.s30 3 rfl rfl rfl) <| gy rfl <| ?_
   refine cl Tryz.call13 rfl (specWorldValid_c hK hW om) ?_
   rintro _ w ⟨rfl, hK⟩
   refine gy rfl <| vl (ntB rfl) <| vl (pk rfl) <| nl <| thn <| ?_
   refine cdB rfl (fun h2 => ?_) (fun h2 => ?_)
   ·refine sq <| rg <| ?_
    refine vl (lsO hK Ty.a30 Ty.s30 1 rfl rfl rfl) <| vl (lsO hK Ty.a30 Ty.s30 0 rfl rfl rfl) <| ?_
    refine cl Tryz.call12 rfl (sameWorld_c hK hW2 hW3) ?_
    rintro _ w ⟨rfl, hK⟩
    refine vl (aB rfl) <| nl <| thn <| rt <| thr <| p1r (a := .bool _) rfl <| ?_
    exact ⟨congrArg Value.bool (dec_t rfl), _, _, hK, hG⟩
   ·have hok : WdOk wd := of_dec (Eq.mp (Bool.not_eq_false' _) h2)
    rw [wdF_yes hok] at hW2 hW3
    refine sk <| thn <| sq <| sq <| rg <| ?_
    refine vl (aI rfl) <| nl <| thn <| bk <| ?_
    refine lp (σ := Nat) (fun i => [(3, .pointer (some ⟨b3, 0, none⟩)), (4, .pointer (some ⟨b4, 0, none⟩)), (5, .pointer (some ⟨b5, 0, none⟩)), (7, .int .i64 (i : Int))]) (fun i w => i ≤ 64 ∧ K e w G3 ((b6, row (wc W3) 30) :: (b5, row (wc W2) 30) :: (b4, row (ec kd a b c) 32) :: (b3, row (wc W) 30) :: L)) (fun i => 64 - i) 0 ⟨rfl, rfl, rfl, rfl, trivial⟩ ⟨Nat.zero_le _, hK⟩ ?_
    rintro i g w ⟨hi, hK⟩
    refine sq <| sq <| rg <| ?_
    refine vl (mI rfl) <| vl (lt rfl rfl) <| nl <| thn <| ?_
    refine cdP rfl (fun hc => ?_) (fun hc => ?_)
    ·have hpt : Pt (i : Int) := by unfold Pt; omega
     have hl := change_law wd kd a b c (i : Int)
     refine sk <| thn <| sq <| bk <| sq <| ?_
     refine rgs (fun w => K e w G3 ((b5, row (wc W2) 30) :: (b4, row (ec kd a b c) 32) :: (b3, row (wc W) 30) :: L)) (fun w => K _ w _ _) [U,U,U,U,U,U,U,U,U,U,U,U,U,U,U,U,U,U,U,U,U,U,U,U,U,U,U,U,U,U,U] 31 Ty.mixed rfl rfl (hK.drawn _) ?_
     intro w hK
     have hS : (fun w => K e w G3 ((b5, row (wc W2) 30) :: (b4, row (ec kd a b c) 32) :: (b3, row (wc W) 30) :: L)) w := K.sl hK
     refine xt (i := 0) rfl kr rfl rfl (fun w hK => (lsO hK Ty.a30 Ty.s30 0 rfl rfl rfl)) hS <| ?_; refine xt (i := 1) rfl kr rfl rfl (fun w hK => (mI rfl)) hS <| ?_; refine xt (i := 3) rfl kr rfl rfl (fun w hK => (lsO hK Ty.a30 Ty.s30 2 rfl rfl rfl)) hS <| ?_; refine xt (i := 4) rfl kr rfl rfl (fun w hK => (mI rfl)) hS <| ?_
     refine xe (i := 2) kr rfl rfl ?_
     refine cl Tryz.call17 rfl (valueOf_c hK hW2) ?_
     rintro _ w ⟨rfl, hK⟩
     refine xnk (K.sl hK) fun hS => ?_
     refine xe (i := 5) kr rfl rfl ?_
     refine cl Tryz.call17 rfl (valueOf_c hK hW) ?_
     rintro _ w ⟨rfl, hK⟩
     refine xnk (K.sl hK) fun hS => ?_
     refine xt (i := 6) rfl kr rfl rfl (fun w hK => (ne rfl rfl)) hS <| ?_; refine xt (i := 7) rfl kr rfl rfl (fun w hK => (mB rfl)) hS <| ?_
     refine xsplP (t := 45) rfl (fun h45 => ?_) (fun h45 => ?_)
     ·skip
      refine xt (i := 8) rfl kr rfl rfl (fun w hK => (fa Tryz.underlying32 rfl Ty.z3 rfl)) hS <| ?_; refine xt (i := 9) rfl kr rfl rfl (fun w hK => (ldO hK Ty.o3 1 rfl rfl rfl)) hS <| ?_; refine xt (i := 10) rfl kr rfl rfl (fun w hK => (ne rfl rfl)) hS <| ?_; refine xt (i := 11) rfl kr rfl rfl (fun w hK => (mB rfl)) hS <| ?_
      refine xsplP (t := 49) rfl (fun h49 => ?_) (fun h49 => ?_)
      ·skip
       refine xt (i := 12) rfl kr rfl rfl (fun w hK => (fa Tryz.underlying32 rfl Ty.z3 rfl)) hS <| ?_; refine xt (i := 13) rfl kr rfl rfl (fun w hK => (ldO hK Ty.o3 1 rfl rfl rfl)) hS <| ?_; refine xt (i := 14) rfl kr rfl rfl (fun w hK => (ne rfl rfl)) hS <| ?_; refine xt (i := 15) rfl kr rfl rfl (fun w hK => (pk rfl)) hS <| ?_; refine xt (i := 16) rfl kr rfl rfl (fun w hK => (mB rfl)) hS <| ?_
       refine xsplP (t := 54) rfl (fun h54 => ?_) (fun h54 => ?_)
       ·skip
        refine xu (i := 17) rfl kr rfl rfl hS <| xu (i := 18) rfl kr rfl rfl hS <| xu (i := 19) rfl kr rfl rfl hS <| xu (i := 20) rfl kr rfl rfl hS <| xt (i := 21) rfl kr rfl rfl (fun w hK => (pk rfl)) hS <| ?_; refine xt (i := 22) rfl kr rfl rfl (fun w hK => (mB rfl)) hS <| ?_; refine xu (i := 23) rfl kr rfl rfl hS <| xu (i := 24) rfl kr rfl rfl hS <| xu (i := 25) rfl kr rfl rfl hS <| xu (i := 26) rfl kr rfl rfl hS <| xu (i := 27) rfl kr rfl rfl hS <| xu (i := 28) rfl kr rfl rfl hS <| xt (i := 29) rfl kr rfl rfl (fun w hK => (pk rfl)) hS <| ?_; refine xt (i := 30) rfl kr rfl rfl (fun w hK => (pk rfl)) hS <| ?_; refine xd kr <| thn <| ?_
        refine cdt rfl ?_
        refine sq <| rg <| ?_
        refine vl (aB rfl) <| nl <| thn <| rt <| bkr <| thr <| thr <| bkr <| thr <| p1r (a := .bool _) rfl <| ?_
        exfalso; omega
       ·skip
        refine xt (i := 17) rfl kr rfl rfl (fun w hK => (fa Tryz.underlying32 rfl Ty.z3 rfl)) hS <| ?_; refine xt (i := 18) rfl kr rfl rfl (fun w hK => (ldO hK Ty.o3 1 rfl rfl rfl)) hS <| ?_; refine xt (i := 19) rfl kr rfl rfl (fun w hK => (mI rfl)) hS <| ?_; refine xt (i := 20) rfl kr rfl rfl (fun w hK => (ne rfl rfl)) hS <| ?_; refine xt (i := 21) rfl kr rfl rfl (fun w hK => (pk rfl)) hS <| ?_; refine xt (i := 22) rfl kr rfl rfl (fun w hK => (mB rfl)) hS <| ?_
        refine xsplP (t := 60) rfl (fun h60 => ?_) (fun h60 => ?_)
        ·skip
         refine xu (i := 23) rfl kr rfl rfl hS <| xu (i := 24) rfl kr rfl rfl hS <| xu (i := 25) rfl kr rfl rfl hS <| xu (i := 26) rfl kr rfl rfl hS <| xu (i := 27) rfl kr rfl rfl hS <| xu (i := 28) rfl kr rfl rfl hS <| xt (i := 29) rfl kr rfl rfl (fun w hK => (pk rfl)) hS <| ?_; refine xt (i := 30) rfl kr rfl rfl (fun w hK => (pk rfl)) hS <| ?_; refine xd kr <| thn <| ?_
         refine cdt rfl ?_
         refine sq <| rg <| ?_
         refine vl (aB rfl) <| nl <| thn <| rt <| bkr <| thr <| thr <| bkr <| thr <| p1r (a := .bool _) rfl <| ?_
         exfalso; omega
        ·skip
         refine xt (i := 23) rfl kr rfl rfl (fun w hK => (fa Tryz.underlying32 rfl Ty.z3 rfl)) hS <| ?_; refine xt (i := 24) rfl kr rfl rfl (fun w hK => (ldO hK Ty.o3 1 rfl rfl rfl)) hS <| ?_; refine xt (i := 25) rfl kr rfl rfl (fun w hK => (lsO hK Ty.a30 Ty.s30 2 rfl rfl rfl)) hS <| ?_; refine xt (i := 26) rfl kr rfl rfl (fun w hK => (mI rfl)) hS <| ?_
         refine xe (i := 27) kr rfl rfl ?_
         refine gy rfl <| ?_
         refine cl Tryz.call15 rfl (WorldOwner_c hK hW om) ?_
         rintro _ w ⟨⟨n, rfl, _, hn, _⟩, G5, hG5, hK⟩
         obtain rfl := hn hok hpt
         refine xnk ((K.vle (K.sl hK) hG5)) fun hS => ?_
         refine xt (i := 28) rfl kr rfl rfl (fun w hK => (ne rfl rfl)) hS <| ?_; refine xt (i := 29) rfl kr rfl rfl (fun w hK => (pk rfl)) hS <| ?_; refine xt (i := 30) rfl kr rfl rfl (fun w hK => (pk rfl)) hS <| ?_; refine xd kr <| thn <| ?_
         refine cdP rfl (fun hc => ?_) (fun hc => ?_)
         ·skip
          refine sq <| rg <| ?_
          refine vl (aB rfl) <| nl <| thn <| rt <| bkr <| thr <| thr <| bkr <| thr <| p1r (a := .bool _) rfl <| ?_
          exfalso; omega
         ·skip
          refine sk <| bkn <| thn <| rg <| ?_
          refine vl (mI rfl) <| vl (ad rfl rfl) <| vl (aI rfl) <| nl <| thn <| ?_
          first | exact ⟨i + 1, ⟨rfl, rfl, rfl, rfl, trivial⟩, ⟨by omega, hK⟩, by omega⟩ | exact ⟨i + 1, ⟨rfl, rfl, rfl, rfl, trivial⟩, ⟨by omega, K.vle hK hG5⟩, by omega⟩
      ·skip
       refine xu (i := 12) rfl kr rfl rfl hS <| xu (i := 13) rfl kr rfl rfl hS <| xu (i := 14) rfl kr rfl rfl hS <| xt (i := 15) rfl kr rfl rfl (fun w hK => (pk rfl)) hS <| ?_; refine xt (i := 16) rfl kr rfl rfl (fun w hK => (mB rfl)) hS <| ?_; refine xt (i := 17) rfl kr rfl rfl (fun w hK => (fa Tryz.underlying32 rfl Ty.z3 rfl)) hS <| ?_; refine xt (i := 18) rfl kr rfl rfl (fun w hK => (ldO hK Ty.o3 1 rfl rfl rfl)) hS <| ?_; refine xt (i := 19) rfl kr rfl rfl (fun w hK => (mI rfl)) hS <| ?_; refine xt (i := 20) rfl kr rfl rfl (fun w hK => (ne rfl rfl)) hS <| ?_; refine xt (i := 21) rfl kr rfl rfl (fun w hK => (pk rfl)) hS <| ?_; refine xt (i := 22) rfl kr rfl rfl (fun w hK => (mB rfl)) hS <| ?_
       refine xsplP (t := 60) rfl (fun h60 => ?_) (fun h60 => ?_)
       ·skip
        refine xu (i := 23) rfl kr rfl rfl hS <| xu (i := 24) rfl kr rfl rfl hS <| xu (i := 25) rfl kr rfl rfl hS <| xu (i := 26) rfl kr rfl rfl hS <| xu (i := 27) rfl kr rfl rfl hS <| xu (i := 28) rfl kr rfl rfl hS <| xt (i := 29) rfl kr rfl rfl (fun w hK => (pk rfl)) hS <| ?_; refine xt (i := 30) rfl kr rfl rfl (fun w hK => (pk rfl)) hS <| ?_; refine xd kr <| thn <| ?_
        refine cdt rfl ?_
        refine sq <| rg <| ?_
        refine vl (aB rfl) <| nl <| thn <| rt <| bkr <| thr <| thr <| bkr <| thr <| p1r (a := .bool _) rfl <| ?_
        exfalso; omega
       ·skip
        refine xt (i := 23) rfl kr rfl rfl (fun w hK => (fa Tryz.underlying32 rfl Ty.z3 rfl)) hS <| ?_; refine xt (i := 24) rfl kr rfl rfl (fun w hK => (ldO hK Ty.o3 1 rfl rfl rfl)) hS <| ?_; refine xt (i := 25) rfl kr rfl rfl (fun w hK => (lsO hK Ty.a30 Ty.s30 2 rfl rfl rfl)) hS <| ?_; refine xt (i := 26) rfl kr rfl rfl (fun w hK => (mI rfl)) hS <| ?_
        refine xe (i := 27) kr rfl rfl ?_
        refine gy rfl <| ?_
        refine cl Tryz.call15 rfl (WorldOwner_c hK hW om) ?_
        rintro _ w ⟨⟨n, rfl, _, hn, _⟩, G5, hG5, hK⟩
        obtain rfl := hn hok hpt
        refine xnk ((K.vle (K.sl hK) hG5)) fun hS => ?_
        refine xt (i := 28) rfl kr rfl rfl (fun w hK => (ne rfl rfl)) hS <| ?_; refine xt (i := 29) rfl kr rfl rfl (fun w hK => (pk rfl)) hS <| ?_; refine xt (i := 30) rfl kr rfl rfl (fun w hK => (pk rfl)) hS <| ?_; refine xd kr <| thn <| ?_
        refine cdP rfl (fun hc => ?_) (fun hc => ?_)
        ·skip
         refine sq <| rg <| ?_
         refine vl (aB rfl) <| nl <| thn <| rt <| bkr <| thr <| thr <| bkr <| thr <| p1r (a := .bool _) rfl <| ?_
         exfalso; omega
        ·skip
         refine sk <| bkn <| thn <| rg <| ?_
         refine vl (mI rfl) <| vl (ad rfl rfl) <| vl (aI rfl) <| nl <| thn <| ?_
         first | exact ⟨i + 1, ⟨rfl, rfl, rfl, rfl, trivial⟩, ⟨by omega, hK⟩, by omega⟩ | exact ⟨i + 1, ⟨rfl, rfl, rfl, rfl, trivial⟩, ⟨by omega, K.vle hK hG5⟩, by omega⟩
     ·skip
      refine xu (i := 8) rfl kr rfl rfl hS <| xu (i := 9) rfl kr rfl rfl hS <| xu (i := 10) rfl kr rfl rfl hS <| xu (i := 11) rfl kr rfl rfl hS <| xu (i := 12) rfl kr rfl rfl hS <| xu (i := 13) rfl kr rfl rfl hS <| xu (i := 14) rfl kr rfl rfl hS <| xu (i := 15) rfl kr rfl rfl hS <| xu (i := 16) rfl kr rfl rfl hS <| xu (i := 17) rfl kr rfl rfl hS <| xu (i := 18) rfl kr rfl rfl hS <| xu (i := 19) rfl kr rfl rfl hS <| xu (i := 20) rfl kr rfl rfl hS <| xu (i := 21) rfl kr rfl rfl hS <| xu (i := 22) rfl kr rfl rfl hS <| xu (i := 23) rfl kr rfl rfl hS <| xu (i := 24) rfl kr rfl rfl hS <| xu (i := 25) rfl kr rfl rfl hS <| xu (i := 26) rfl kr rfl rfl hS <| xu (i := 27) rfl kr rfl rfl hS <| xu (i := 28) rfl kr rfl rfl hS <| xu (i := 29) rfl kr rfl rfl hS <| xt (i := 30) rfl kr rfl rfl (fun w hK => (pk rfl)) hS <| ?_; refine xd kr <| thn <| ?_
      refine cdf rfl ?_
      refine sk <| bkn <| thn <| rg <| ?_
      refine vl (mI rfl) <| vl (ad rfl rfl) <| vl (aI rfl) <| nl <| thn <| ?_
      first | exact ⟨i + 1, ⟨rfl, rfl, rfl, rfl, trivial⟩, ⟨by omega, hK⟩, by omega⟩ | exact ⟨i + 1, ⟨rfl, rfl, rfl, rfl, trivial⟩, ⟨by omega, K.vle hK hG5⟩, by omega⟩
    ·refine ex <| the <| the <| bkh <| thn <| sq <| rg <| ?_
     refine vl (aB rfl) <| nl <| thn <| rt <| p1r (a := .bool _) rfl <| ?_
     exact ⟨rfl, _, _, hK, hG⟩
    
set_option maxRecDepth 20000 in
set_option maxHeartbeats 1000000 in
theorem FnWorldGiven_c (hK : K e w G L) (hE : ErrS 209 G a0 a1) (hc : BytS G cva code) : Ret Tryz.prog 6 #[cva] w (fun r w' => r = .bool true ∧ ∃ G' L', K e w' G' L' ∧ VLe G G') := by
 refine enter1 (args := [cva]) Tryz.func6 rfl rfl rfl rfl ?_
 refine sq <| rg <| ?_
 refine vl (aB rfl) <| nl <| thn <| sq <| sq <| rg <| vl mv <| vl (ln Tryz.underlying22 rfl hc.len) <| vl (gt rfl rfl) <| nl <| thn <| ?_
 refine cdP rfl (fun hbig => ?_) (fun hbig => ?_)
 ·refine sq <| rg <| ?_
  refine vl (aB rfl) <| nl <| thn <| rt <| thr <| p1r (a := .bool _) rfl <| ?_
  exact ⟨rfl, _, _, hK, VLe.refl _⟩
 ·refine sk <| thn <| sq <| rg <| ?_
  refine vl mv <| ?_
  refine cl Tryz.call9 rfl (DrawWorldDo_c hK hc) ?_
  rintro _ w ⟨G1, W, wd, rs, kd, a, b, c, rfl, hG1, hW, hil, hK⟩
  refine vl mv <| vl (ext rfl rfl) <| vl (ext rfl rfl) <| ?_
  refine al hK Ty.i30 rfl ?_
  intro b3 w hK
  refine al hK Ty.i32 rfl ?_
  intro b4 w hK
  refine soS hK Ty.i30 1 rfl rfl rfl rfl (WdS.one hW) rfl ?_
  intro w hK
  refine soS hK Ty.i32 0 rfl rfl rfl rfl rfl rfl ?_
  intro w hK
  refine nl <| thn <| sq <| rg <| vl (lsO hK Ty.a30 Ty.s30 1 rfl rfl rfl) <| vl (lsO hK Ty.a32 Ty.s32 0 rfl rfl rfl) <| ?_
  refine cl Tryz.call10 rfl (implWorldDo_c (hE.mono hG1) hK hW hil) ?_
  rintro _ w ⟨G2, W2, q2, hG2, rfl, hW2, hK⟩
  refine al hK Ty.i30 rfl ?_
  intro b5 w hK
  refine soS hK Ty.i30 0 rfl rfl rfl rfl (WdS.one hW2) rfl ?_
  intro w hK
  refine nl <| thn <| sq <| rg <| vl (lsO hK Ty.a30 Ty.s30 2 rfl rfl rfl) <| vl (lsO hK Ty.a32 Ty.s32 1 rfl rfl rfl) <| ?_
  refine cl Tryz.call11 rfl (specWorldDo_c hK (hW.mono hG2) hil) ?_
  rintro _ w ⟨G3, W3, q3, hG3, rfl, hW3, hK⟩
  have hG := (hG1.trans hG2).trans hG3
  replace hE := hE.mono hG
  replace hW := hW.mono (hG2.trans hG3)
  replace hW2 := hW2.mono hG3
  refine al hK Ty.i30 rfl ?_
  intro b6 w hK
  refine soS hK Ty.i30 0 rfl rfl rfl rfl (WdS.one hW3) rfl ?_
  intro w hK
  refine nl <| thn <| sq <| sq <| rg <| vl (lsO hK Ty.a30 Ty.s30 1 rfl rfl rfl) <| vl (lsO hK Ty.a30 Ty.s30 0 rfl rfl rfl) <| ?_
  refine cl Tryz.call12 rfl (sameWorld_c hK hW2 hW3) ?_
  rintro _ w ⟨rfl, hK⟩
  refine vl (ntB rfl) <| vl (mB rfl) <| ?_
  refine spl (t := 30) rfl (fun h1 => ?_) (fun h1 => ?_)
  ·exact absurd rfl (not_dec (Eq.mp (Bool.not_eq_true' _) h1))
  ·refine gy rfl <| vl (lsO hK Ty.a30 Ty.s30 3 rfl rfl rfl) <| gy rfl <| ?_
   refine cl Tryz.call13 rfl (specWorldValid_c hK hW om) ?_
   rintro _ w ⟨rfl, hK⟩
   refine gy rfl <| vl (ntB rfl) <| vl (pk rfl) <| nl <| thn <| ?_
   refine cdB rfl (fun h2 => ?_) (fun h2 => ?_)
   ·refine sq <| rg <| ?_
    refine vl (lsO hK Ty.a30 Ty.s30 1 rfl rfl rfl) <| vl (lsO hK Ty.a30 Ty.s30 0 rfl rfl rfl) <| ?_
    refine cl Tryz.call12 rfl (sameWorld_c hK hW2 hW3) ?_
    rintro _ w ⟨rfl, hK⟩
    refine vl (aB rfl) <| nl <| thn <| rt <| thr <| p1r (a := .bool _) rfl <| ?_
    exact ⟨congrArg Value.bool (dec_t rfl), _, _, hK, hG⟩
   ·have hok : WdOk wd := of_dec (Eq.mp (Bool.not_eq_false' _) h2)
    rw [wdF_yes hok] at hW2 hW3
    refine sk <| thn <| sq <| sq <| rg <| ?_
    refine vl (aI rfl) <| nl <| thn <| bk <| ?_
    have e1 := hW.now
    have hd := doW_ok hok kd a b c
    have erg := hW.rg
    refine lp (σ := Nat) (fun i => [(3, .pointer (some ⟨b3, 0, none⟩)), (4, .pointer (some ⟨b4, 0, none⟩)), (5, .pointer (some ⟨b5, 0, none⟩)), (7, .int .i64 (i : Int))]) (fun i w => i ≤ 64 ∧ K e w G3 ((b6, row (wc W3) 30) :: (b5, row (wc W2) 30) :: (b4, row (ec kd a b c) 32) :: (b3, row (wc W) 30) :: L)) (fun i => 64 - i) 0 ⟨rfl, rfl, rfl, rfl, trivial⟩ ⟨Nat.zero_le _, hK⟩ ?_
    rintro i g w ⟨hi, hK⟩
    refine sq <| sq <| rg <| ?_
    refine vl (mI rfl) <| vl (lt rfl rfl) <| nl <| thn <| ?_
    refine cdP rfl (fun hc => ?_) (fun hc => ?_)
    ·have hpt : Pt (i : Int) := by unfold Pt; omega
     have hl := given_law hok kd a b c (i : Int)
     have hn0 := hok.1.1
     have hn1 := hok.1.2
     refine sk <| thn <| sq <| bk <| sq <| rg <| ?_
     refine vl (fa Tryz.underlying30 rfl Ty.z24 rfl) <| vl (ldO hK Ty.o24 3 rfl rfl rfl) <| vl (mI rfl) <| ?_
     refine cl Tryz.call14 rfl (holder_c hK hW.leases hok.wda.ls hpt) ?_
     rintro _ w ⟨rfl, hK⟩
     refine vl mv <| vl (ext rfl rfl) <| vl (ext rfl rfl) <| vl (aI rfl) <| vl (aI rfl) <| nl <| thn <| sq <| rg <| vl (fa Tryz.underlying30 rfl Ty.z24 rfl) <| vl (ldO hK Ty.o24 1 rfl rfl rfl) <| vl (mI rfl) <| ?_
     refine cl Tryz.call14 rfl (holder_c hK hW2.leases hd.wda.ls hpt) ?_
     rintro _ w ⟨rfl, hK⟩
     refine vl mv <| vl (ext rfl rfl) <| vl (ext rfl rfl) <| vl (aI rfl) <| vl (aI rfl) <| nl <| thn <| sq <| rg <| vl (mI rfl) <| vl (mI rfl) <| vl (ne rfl rfl) <| vl (mB rfl) <| ?_
     refine splP (t := 59) rfl (fun h59 => ?_) (fun h59 => ?_)
     ·skip
      refine gn rfl <| gn rfl <| gn rfl <| vl (pk rfl) <| vl (mB rfl) <| gy rfl <| vl (fa Tryz.underlying30 rfl Ty.z23 rfl) <| gy rfl <| vl (ldO hK Ty.o23 3 rfl rfl rfl) <| gy rfl <| vl (mI rfl) <| gy rfl <| ?_
      refine cl Tryz.call16 rfl (nodeAtL_c hK hW.ring) ?_
      rintro _ w ⟨⟨x, rfl, ho, hx1, hx2⟩, hK⟩
      refine gy rfl <| vl (ff Tryz.underlying43 rfl Ty.o3 rfl rfl) <| gy rfl <| vl (mI rfl) <| gy rfl <| vl (ne rfl rfl) <| gy rfl <| vl (mB rfl) <| ?_
      refine splP (t := 72) rfl (fun h72 => ?_) (fun h72 => ?_)
      ·skip
       refine gn rfl <| gn rfl <| gn rfl <| gn rfl <| gn rfl <| gn rfl <| gy rfl <| vl (pk rfl) <| vl (pk rfl) <| nl <| thn <| ?_
       refine cdt rfl ?_
       refine sq <| rg <| ?_
       refine vl (aB rfl) <| nl <| thn <| rt <| bkr <| thr <| thr <| bkr <| thr <| p1r (a := .bool _) rfl <| ?_
       rcases hl with hl | ⟨hl1, hl2⟩
       ·have hl1 := congrArg Prod.fst hl; have hl2 := congrArg Prod.snd hl; exfalso; omega
       ·unfold utl at hl2; exfalso; first | omega | (have := hx1 (by rw [erg]; exact hl1); omega)
      ·skip
       refine gy rfl <| vl (mI rfl) <| gy rfl <| vl (fa Tryz.underlying30 rfl Ty.z3 rfl) <| gy rfl <| vl (ldO hK Ty.o3 3 rfl rfl rfl) <| gy rfl <| vl (ad rfl rfl) <| gy rfl <| vl (mn rfl rfl) <| gy rfl <| vl (ne rfl rfl) <| gy rfl <| vl (pk rfl) <| vl (pk rfl) <| nl <| thn <| ?_
       refine cdP rfl (fun hc => ?_) (fun hc => ?_)
       ·skip
        refine sq <| rg <| ?_
        refine vl (aB rfl) <| nl <| thn <| rt <| bkr <| thr <| thr <| bkr <| thr <| p1r (a := .bool _) rfl <| ?_
        rcases hl with hl | ⟨hl1, hl2⟩
        ·have hl1 := congrArg Prod.fst hl; have hl2 := congrArg Prod.snd hl; exfalso; omega
        ·unfold utl at hl2; exfalso; first | omega | (have := hx1 (by rw [erg]; exact hl1); omega)
       ·skip
        refine sk <| bkn <| thn <| rg <| ?_
        refine vl (mI rfl) <| vl (ad rfl rfl) <| vl (aI rfl) <| nl <| thn <| ?_
        exact ⟨i + 1, ⟨rfl, rfl, rfl, rfl, trivial⟩, ⟨by omega, hK⟩, by omega⟩
     ·skip
      refine gy rfl <| vl (mI rfl) <| gy rfl <| vl (mI rfl) <| gy rfl <| vl (ne rfl rfl) <| vl (pk rfl) <| vl (mB rfl) <| ?_
      refine splP (t := 64) rfl (fun h64 => ?_) (fun h64 => ?_)
      ·skip
       refine gy rfl <| vl (fa Tryz.underlying30 rfl Ty.z23 rfl) <| gy rfl <| vl (ldO hK Ty.o23 3 rfl rfl rfl) <| gy rfl <| vl (mI rfl) <| gy rfl <| ?_
       refine cl Tryz.call16 rfl (nodeAtL_c hK hW.ring) ?_
       rintro _ w ⟨⟨x, rfl, ho, hx1, hx2⟩, hK⟩
       refine gy rfl <| vl (ff Tryz.underlying43 rfl Ty.o3 rfl rfl) <| gy rfl <| vl (mI rfl) <| gy rfl <| vl (ne rfl rfl) <| gy rfl <| vl (mB rfl) <| ?_
       refine splP (t := 72) rfl (fun h72 => ?_) (fun h72 => ?_)
       ·skip
        refine gn rfl <| gn rfl <| gn rfl <| gn rfl <| gn rfl <| gn rfl <| gy rfl <| vl (pk rfl) <| vl (pk rfl) <| nl <| thn <| ?_
        refine cdt rfl ?_
        refine sq <| rg <| ?_
        refine vl (aB rfl) <| nl <| thn <| rt <| bkr <| thr <| thr <| bkr <| thr <| p1r (a := .bool _) rfl <| ?_
        rcases hl with hl | ⟨hl1, hl2⟩
        ·have hl1 := congrArg Prod.fst hl; have hl2 := congrArg Prod.snd hl; exfalso; omega
        ·unfold utl at hl2; exfalso; first | omega | (have := hx1 (by rw [erg]; exact hl1); omega)
       ·skip
        refine gy rfl <| vl (mI rfl) <| gy rfl <| vl (fa Tryz.underlying30 rfl Ty.z3 rfl) <| gy rfl <| vl (ldO hK Ty.o3 3 rfl rfl rfl) <| gy rfl <| vl (ad rfl rfl) <| gy rfl <| vl (mn rfl rfl) <| gy rfl <| vl (ne rfl rfl) <| gy rfl <| vl (pk rfl) <| vl (pk rfl) <| nl <| thn <| ?_
        refine cdP rfl (fun hc => ?_) (fun hc => ?_)
        ·skip
         refine sq <| rg <| ?_
         refine vl (aB rfl) <| nl <| thn <| rt <| bkr <| thr <| thr <| bkr <| thr <| p1r (a := .bool _) rfl <| ?_
         rcases hl with hl | ⟨hl1, hl2⟩
         ·have hl1 := congrArg Prod.fst hl; have hl2 := congrArg Prod.snd hl; exfalso; omega
         ·unfold utl at hl2; exfalso; first | omega | (have := hx1 (by rw [erg]; exact hl1); omega)
        ·skip
         refine sk <| bkn <| thn <| rg <| ?_
         refine vl (mI rfl) <| vl (ad rfl rfl) <| vl (aI rfl) <| nl <| thn <| ?_
         exact ⟨i + 1, ⟨rfl, rfl, rfl, rfl, trivial⟩, ⟨by omega, hK⟩, by omega⟩
      ·skip
       refine gn rfl <| gn rfl <| gn rfl <| gn rfl <| gn rfl <| gn rfl <| gn rfl <| gn rfl <| gu rfl <| gu rfl <| gu rfl <| gu rfl <| gu rfl <| gu rfl <| gn rfl <| vl (pk rfl) <| nl <| thn <| ?_
       refine cdf rfl ?_
       refine sk <| bkn <| thn <| rg <| ?_
       refine vl (mI rfl) <| vl (ad rfl rfl) <| vl (aI rfl) <| nl <| thn <| ?_
       exact ⟨i + 1, ⟨rfl, rfl, rfl, rfl, trivial⟩, ⟨by omega, hK⟩, by omega⟩
    ·refine ex <| the <| the <| bkh <| thn <| sq <| rg <| ?_
     refine vl (aB rfl) <| nl <| thn <| rt <| p1r (a := .bool _) rfl <| ?_
     exact ⟨rfl, _, _, hK, hG⟩
    
set_option maxRecDepth 20000 in
set_option maxHeartbeats 1000000 in
theorem FnWorldFail_c (hK : K e w G L) (hE : ErrS 209 G a0 a1) (hc : BytS G cva code) : Ret Tryz.prog 4 #[cva] w (fun r w' => r = .bool true ∧ ∃ G' L', K e w' G' L' ∧ VLe G G') := by
 refine enter1 (args := [cva]) Tryz.func4 rfl rfl rfl rfl ?_
 refine sq <| rg <| ?_
 refine vl (aB rfl) <| nl <| thn <| sq <| sq <| rg <| vl mv <| vl (ln Tryz.underlying22 rfl hc.len) <| vl (gt rfl rfl) <| nl <| thn <| ?_
 refine cdP rfl (fun hbig => ?_) (fun hbig => ?_)
 ·refine sq <| rg <| ?_
  refine vl (aB rfl) <| nl <| thn <| rt <| thr <| p1r (a := .bool _) rfl <| ?_
  exact ⟨rfl, _, _, hK, VLe.refl _⟩
 ·refine sk <| thn <| sq <| rg <| ?_
  refine vl mv <| ?_
  refine cl Tryz.call9 rfl (DrawWorldDo_c hK hc) ?_
  rintro _ w ⟨G1, W, wd, rs, kd, a, b, c, rfl, hG1, hW, hil, hK⟩
  refine vl mv <| vl (ext rfl rfl) <| vl (ext rfl rfl) <| ?_
  refine al hK Ty.i30 rfl ?_
  intro b3 w hK
  refine al hK Ty.i32 rfl ?_
  intro b4 w hK
  refine soS hK Ty.i30 1 rfl rfl rfl rfl (WdS.one hW) rfl ?_
  intro w hK
  refine soS hK Ty.i32 0 rfl rfl rfl rfl rfl rfl ?_
  intro w hK
  refine nl <| thn <| sq <| rg <| vl (lsO hK Ty.a30 Ty.s30 1 rfl rfl rfl) <| vl (lsO hK Ty.a32 Ty.s32 0 rfl rfl rfl) <| ?_
  refine cl Tryz.call10 rfl (implWorldDo_c (hE.mono hG1) hK hW hil) ?_
  rintro _ w ⟨G2, W2, q2, hG2, rfl, hW2, hK⟩
  refine al hK Ty.i30 rfl ?_
  intro b5 w hK
  refine soS hK Ty.i30 0 rfl rfl rfl rfl (WdS.one hW2) rfl ?_
  intro w hK
  refine nl <| thn <| sq <| rg <| vl (lsO hK Ty.a30 Ty.s30 2 rfl rfl rfl) <| vl (lsO hK Ty.a32 Ty.s32 1 rfl rfl rfl) <| ?_
  refine cl Tryz.call11 rfl (specWorldDo_c hK (hW.mono hG2) hil) ?_
  rintro _ w ⟨G3, W3, q3, hG3, rfl, hW3, hK⟩
  have hG := (hG1.trans hG2).trans hG3
  replace hE := hE.mono hG
  replace hW := hW.mono (hG2.trans hG3)
  replace hW2 := hW2.mono hG3
  refine al hK Ty.i30 rfl ?_
  intro b6 w hK
  refine soS hK Ty.i30 0 rfl rfl rfl rfl (WdS.one hW3) rfl ?_
  intro w hK
  refine nl <| thn <| sq <| sq <| rg <| vl (lsO hK Ty.a30 Ty.s30 1 rfl rfl rfl) <| vl (lsO hK Ty.a30 Ty.s30 0 rfl rfl rfl) <| ?_
  refine cl Tryz.call12 rfl (sameWorld_c hK hW2 hW3) ?_
  rintro _ w ⟨rfl, hK⟩
  refine vl (ntB rfl) <| vl (mB rfl) <| ?_
  refine spl (t := 29) rfl (fun h1 => ?_) (fun h1 => ?_)
  ·exact absurd rfl (not_dec (Eq.mp (Bool.not_eq_true' _) h1))
  ·refine gy rfl <| vl (lsO hK Ty.a30 Ty.s30 3 rfl rfl rfl) <| gy rfl <| ?_
   refine cl Tryz.call13 rfl (specWorldValid_c hK hW om) ?_
   rintro _ w ⟨rfl, hK⟩
   refine gy rfl <| vl (ntB rfl) <| vl (pk rfl) <| vl (mB rfl) <| ?_
   refine spl (t := 34) rfl (fun h2 => ?_) (fun h2 => ?_)
   ·refine gn rfl <| gn rfl <| gn rfl <| vl (pk rfl) <| vl (mB rfl) <| gn rfl <| gn rfl <| gn rfl <| gn rfl <| gn rfl <| gn rfl <| gn rfl <| vl (pk rfl) <| nl <| thn <| ?_
    refine cdt rfl ?_
    refine sq <| rg <| ?_
    refine vl (lsO hK Ty.a30 Ty.s30 1 rfl rfl rfl) <| vl (lsO hK Ty.a30 Ty.s30 0 rfl rfl rfl) <| ?_
    refine cl Tryz.call12 rfl (sameWorld_c hK hW2 hW3) ?_
    rintro _ w ⟨rfl, hK⟩
    refine vl (aB rfl) <| nl <| thn <| rt <| thr <| p1r (a := .bool _) rfl <| ?_
    exact ⟨congrArg Value.bool (dec_t rfl), _, _, hK, hG⟩
   ·have hok : WdOk wd := of_dec (Eq.mp (Bool.not_eq_false' _) h2)
    rw [wdF_yes hok] at hW2 hW3
    refine gy rfl <| vl (fa Tryz.underlying32 rfl Ty.z3 rfl) <| gy rfl <| vl (ldO hK Ty.o3 2 rfl rfl rfl) <| gy rfl <| vl (ne rfl rfl) <| vl (pk rfl) <| vl (mB rfl) <| ?_
    refine splP (t := 39) rfl (fun h3 => ?_) (fun h3 => ?_)
    ·refine gn rfl <| gn rfl <| gn rfl <| gn rfl <| gn rfl <| gn rfl <| gn rfl <| vl (pk rfl) <| nl <| thn <| ?_
     refine cdt rfl ?_
     refine sq <| rg <| ?_
     refine vl (lsO hK Ty.a30 Ty.s30 1 rfl rfl rfl) <| vl (lsO hK Ty.a30 Ty.s30 0 rfl rfl rfl) <| ?_
     refine cl Tryz.call12 rfl (sameWorld_c hK hW2 hW3) ?_
     rintro _ w ⟨rfl, hK⟩
     refine vl (aB rfl) <| nl <| thn <| rt <| thr <| p1r (a := .bool _) rfl <| ?_
     exact ⟨congrArg Value.bool (dec_t rfl), _, _, hK, hG⟩
    ·refine gy rfl <| vl (fa Tryz.underlying30 rfl Ty.z23 rfl) <| gy rfl <| vl (ldO hK Ty.o23 0 rfl rfl rfl) <| gy rfl <| vl (ln Tryz.underlying23 rfl hW3.ring.sl.len) <| gy rfl <| vl (fa Tryz.underlying30 rfl Ty.z23 rfl) <| gy rfl <| vl (ldO hK Ty.o23 3 rfl rfl rfl) <| gy rfl <| vl (ln Tryz.underlying23 rfl hW.ring.sl.len) <| gy rfl <| vl (eq rfl rfl) <| vl (pk rfl) <| nl <| thn <| ?_
     refine cdP rfl (fun h4 => ?_) (fun h4 => ?_)
     ·refine sq <| rg <| ?_
      refine vl (lsO hK Ty.a30 Ty.s30 1 rfl rfl rfl) <| vl (lsO hK Ty.a30 Ty.s30 0 rfl rfl rfl) <| ?_
      refine cl Tryz.call12 rfl (sameWorld_c hK hW2 hW3) ?_
      rintro _ w ⟨rfl, hK⟩
      refine vl (aB rfl) <| nl <| thn <| rt <| thr <| p1r (a := .bool _) rfl <| ?_
      exact ⟨congrArg Value.bool (dec_t rfl), _, _, hK, hG⟩
     ·obtain rfl : kd = 2 := by omega
      have hne : (doW wd 2 a b c).ring.length ≠ wd.ring.length := by rw [← hW3.rg, ← hW.rg]; simp only [rgl, List.length_map]; omega
      have hf := fail_law hok hne
      have hg := gone_law hf.1 hf.2
      have hd := doW_ok hok 2 a b c
      have hz := hd.wda.zl
      refine sk <| thn <| sq <| sq <| rg <| ?_
      refine vl (aI rfl) <| nl <| thn <| bk <| ?_
      refine lp (σ := Nat) (fun i => [(4, .pointer (some ⟨b4, 0, none⟩)), (5, .pointer (some ⟨b5, 0, none⟩)), (7, .int .i64 (i : Int))]) (fun i w => i ≤ 64 ∧ K e w G3 ((b6, row (wc W3) 30) :: (b5, row (wc W2) 30) :: (b4, row (ec 2 a b c) 32) :: (b3, row (wc W) 30) :: L)) (fun i => 64 - i) 0 ⟨rfl, rfl, rfl, trivial⟩ ⟨Nat.zero_le _, hK⟩ ?_
      rintro i g w ⟨hi, hK⟩
      refine sq <| sq <| rg <| ?_
      refine vl (mI rfl) <| vl (lt rfl rfl) <| nl <| thn <| ?_
      refine cdP rfl (fun hc => ?_) (fun hc => ?_)
      ·have hpt : Pt (i : Int) := by unfold Pt; omega
       refine sk <| thn <| sq <| bk <| sq <| ?_
       refine rgs (fun w => K e w G3 ((b5, row (wc W2) 30) :: (b4, row (ec 2 a b c) 32) :: L)) (fun w => K _ w _ _) [U,U,U,U,U,U] 6 Ty.mixed rfl rfl (hK.drawn _) ?_
       intro w hK
       have hS : (fun w => K e w G3 ((b5, row (wc W2) 30) :: (b4, row (ec 2 a b c) 32) :: L)) w := K.sl hK
       refine xt (i := 0) rfl kr rfl rfl (fun w hK => (lsO hK Ty.a30 Ty.s30 0 rfl rfl rfl)) hS <| ?_; refine xt (i := 1) rfl kr rfl rfl (fun w hK => (mI rfl)) hS <| ?_; refine xt (i := 3) rfl kr rfl rfl (fun w hK => (fa Tryz.underlying32 rfl Ty.z3 rfl)) hS <| ?_; refine xt (i := 4) rfl kr rfl rfl (fun w hK => (ldO hK Ty.o3 1 rfl rfl rfl)) hS <| ?_
       refine xe (i := 2) kr rfl rfl ?_
       refine cl Tryz.call15 rfl (WorldOwner_c hK hW2 om) ?_
       rintro _ w ⟨⟨n, rfl, _, hn, _⟩, G5, hG5, hK⟩
       obtain rfl := hn hd hpt
       refine xnk ((K.vle (K.sl hK) hG5)) fun hS => ?_
       refine xt (i := 5) rfl kr rfl rfl (fun w hK => (eq rfl rfl)) hS <| ?_; refine xd kr <| thn <| ?_
       refine cdP rfl (fun hx => ?_) (fun hx => ?_)
       ·refine sq <| rg <| ?_
        refine vl (aB rfl) <| nl <| thn <| rt <| bkr <| thr <| thr <| bkr <| thr <| p1r (a := .bool _) rfl <| ?_
        exact absurd hx (hg.1 _)
       ·refine sk <| bkn <| thn <| rg <| ?_
        refine vl (mI rfl) <| vl (ad rfl rfl) <| vl (aI rfl) <| nl <| thn <| ?_
        exact ⟨i + 1, ⟨rfl, rfl, rfl, trivial⟩, ⟨by omega, K.vle hK hG5⟩, by omega⟩
      ·refine ex <| the <| the <| bkh <| thn <| sq <| rg <| ?_
       refine vl (lsO hK Ty.a30 Ty.s30 1 rfl rfl rfl) <| vl (fa Tryz.underlying32 rfl Ty.z3 rfl) <| vl (ldO hK Ty.o3 2 rfl rfl rfl) <| vl (bd [(0, _), (1, _), (2, _), (3, _)] Ty.p32 Ty.i32 rfl ⟨⟨rfl, rfl⟩, ⟨rfl, rfl⟩, ⟨rfl, rfl⟩, ⟨rfl, rfl⟩, trivial⟩ rfl) <| ?_
       refine cl Tryz.call10 rfl (implWorldDo_c (kd := 11) (b := 1) (c := 1) hE hK hW2 om) ?_
       rintro _ w ⟨G4, W4, q4, hG4, rfl, hW4, hK⟩
       rw [wdF_yes hd, hg.2 11 1 1 (by omega)] at hW4
       have hW2 := hW2.mono hG4
       have hE := hE.mono hG4
       refine al hK Ty.i30 rfl ?_
       intro b8 w hK
       refine soS hK Ty.i30 0 rfl rfl rfl rfl (WdS.one hW4) rfl ?_
       intro w hK
       refine nl <| thn <| sq <| rg <| vl (lsO hK Ty.a30 Ty.s30 2 rfl rfl rfl) <| vl (fa Tryz.underlying32 rfl Ty.z3 rfl) <| vl (ldO hK Ty.o3 3 rfl rfl rfl) <| vl (bd [(0, _), (1, _)] Ty.p32 Ty.i32 rfl ⟨⟨rfl, rfl⟩, ⟨rfl, rfl⟩, trivial⟩ rfl) <| ?_
       refine cl Tryz.call10 rfl (implWorldDo_c (kd := 9) (b := 0) (c := 0) hE hK hW2 om) ?_
       rintro _ w ⟨G5, W5, q5, hG5, rfl, hW5, hK⟩
       rw [wdF_yes hd, hg.2 9 0 0 (by omega)] at hW5
       have hW2 := hW2.mono hG5
       have hW4 := hW4.mono hG5
       have hE := hE.mono hG5
       refine al hK Ty.i30 rfl ?_
       intro b9 w hK
       refine soS hK Ty.i30 0 rfl rfl rfl rfl (WdS.one hW5) rfl ?_
       intro w hK
       refine nl <| thn <| sq <| rg <| vl (lsO hK Ty.a30 Ty.s30 3 rfl rfl rfl) <| vl (fa Tryz.underlying32 rfl Ty.z3 rfl) <| vl (ldO hK Ty.o3 4 rfl rfl rfl) <| vl (bd [(0, _), (1, _), (2, _)] Ty.p32 Ty.i32 rfl ⟨⟨rfl, rfl⟩, ⟨rfl, rfl⟩, ⟨rfl, rfl⟩, trivial⟩ rfl) <| ?_
       refine cl Tryz.call10 rfl (implWorldDo_c (kd := 8) (b := 1) (c := 0) hE hK hW2 om) ?_
       rintro _ w ⟨G6, W6, q6, hG6, rfl, hW6, hK⟩
       rw [wdF_yes hd, hg.2 8 1 0 (by omega)] at hW6
       have hW2 := hW2.mono hG6
       have hW4 := hW4.mono hG6
       have hW5 := hW5.mono hG6
       refine al hK Ty.i30 rfl ?_
       intro b10 w hK
       refine soS hK Ty.i30 0 rfl rfl rfl rfl (WdS.one hW6) rfl ?_
       intro w hK
       refine nl <| thn <| sq <| rg <| vl (lsO hK Ty.a30 Ty.s30 2 rfl rfl rfl) <| vl (lsO hK Ty.a30 Ty.s30 4 rfl rfl rfl) <| ?_
       refine cl Tryz.call12 rfl (sameWorld_c hK hW4 hW2) ?_
       rintro _ w ⟨rfl, hK⟩
       refine vl (mB rfl) <| ?_
       refine spl (t := 79) rfl (fun h5 => ?_) (fun h5 => ?_)
       ·refine gy rfl <| vl (lsO hK Ty.a30 Ty.s30 1 rfl rfl rfl) <| gy rfl <| vl (lsO hK Ty.a30 Ty.s30 4 rfl rfl rfl) <| gy rfl <| ?_
        refine cl Tryz.call12 rfl (sameWorld_c hK hW5 hW2) ?_
        rintro _ w ⟨rfl, hK⟩
        refine vl (pk rfl) <| vl (mB rfl) <| ?_
        refine spl (t := 84) rfl (fun h6 => ?_) (fun h6 => ?_)
        ·refine gy rfl <| vl (lsO hK Ty.a30 Ty.s30 0 rfl rfl rfl) <| gy rfl <| vl (lsO hK Ty.a30 Ty.s30 4 rfl rfl rfl) <| gy rfl <| ?_
         refine cl Tryz.call12 rfl (sameWorld_c hK hW6 hW2) ?_
         rintro _ w ⟨rfl, hK⟩
         refine vl (pk rfl) <| vl (aB rfl) <| nl <| thn <| rt <| p1r (a := .bool _) rfl <| ?_
         exact ⟨congrArg Value.bool (dec_t rfl), _, _, hK, ((hG.trans hG4).trans hG5).trans hG6⟩
        ·exact absurd rfl (not_dec h6)
       ·exact absurd rfl (not_dec h5)
set_option maxRecDepth 20000 in
set_option maxHeartbeats 1000000 in
theorem FnWorldHand_c (hK : K e w G L) (hE : ErrS 209 G a0 a1) (hc : BytS G cva code) (hm : BytS G cvm more) : Ret Tryz.prog 5 #[cva, cvm] w (fun r w' => r = .bool true ∧ ∃ G' L', K e w' G' L' ∧ VLe G G') := by
 refine enter1 (args := [cva, cvm]) Tryz.func5 rfl rfl rfl rfl ?_
 refine sq <| rg <| ?_
 refine vl (aB rfl) <| nl <| thn <| sq <| sq <| rg <| vl mv <| vl (ln Tryz.underlying22 rfl hc.len) <| vl (gt rfl rfl) <| vl (mB rfl) <| ?_
 refine splP (t := 16) rfl (fun hbig => ?_) (fun hbig => ?_)
 ·refine gn rfl <| gn rfl <| gn rfl <| vl (pk rfl) <| nl <| thn <| ?_
  refine cdt rfl ?_
  refine sq <| rg <| ?_
  refine vl (aB rfl) <| nl <| thn <| rt <| thr <| p1r (a := .bool _) rfl <| ?_
  exact ⟨rfl, _, _, hK, VLe.refl _⟩
 ·refine gy rfl <| vl mv <| gy rfl <| vl (ln Tryz.underlying22 rfl hm.len) <| gy rfl <| vl (gt rfl rfl) <| vl (pk rfl) <| nl <| thn <| ?_
  refine cdP rfl (fun hbig2 => ?_) (fun hbig2 => ?_)
  ·refine sq <| rg <| ?_
   refine vl (aB rfl) <| nl <| thn <| rt <| thr <| p1r (a := .bool _) rfl <| ?_
   exact ⟨rfl, _, _, hK, VLe.refl _⟩
  ·refine sk <| thn <| sq <| rg <| ?_
   refine vl mv <| ?_
   refine cl Tryz.call9 rfl (DrawWorldDo_c hK hc) ?_
   rintro _ w ⟨G1, W, wd, rs, kd, a, b, c, rfl, hG1, hW, hil, hK⟩
   refine vl mv <| vl (ext rfl rfl) <| vl (ext rfl rfl) <| ?_
   refine al hK Ty.i30 rfl ?_
   intro b5 w hK
   refine al hK Ty.i32 rfl ?_
   intro b6 w hK
   refine soS hK Ty.i30 1 rfl rfl rfl rfl (WdS.one hW) rfl ?_
   intro w hK
   refine soS hK Ty.i32 0 rfl rfl rfl rfl rfl rfl ?_
   intro w hK
   refine nl <| thn <| sq <| rg <| vl (lsO hK Ty.a30 Ty.s30 1 rfl rfl rfl) <| vl (lsO hK Ty.a32 Ty.s32 0 rfl rfl rfl) <| ?_
   refine cl Tryz.call10 rfl (implWorldDo_c (hE.mono hG1) hK hW hil) ?_
   rintro _ w ⟨G2, W2, q2, hG2, rfl, hW2, hK⟩
   refine al hK Ty.i30 rfl ?_
   intro b7 w hK
   refine soS hK Ty.i30 0 rfl rfl rfl rfl (WdS.one hW2) rfl ?_
   intro w hK
   refine nl <| thn <| sq <| rg <| vl (lsO hK Ty.a30 Ty.s30 2 rfl rfl rfl) <| vl (lsO hK Ty.a32 Ty.s32 1 rfl rfl rfl) <| ?_
   refine cl Tryz.call11 rfl (specWorldDo_c hK (hW.mono hG2) hil) ?_
   rintro _ w ⟨G3, W3, q3, hG3, rfl, hW3, hK⟩
   have hG := (hG1.trans hG2).trans hG3
   replace hE := hE.mono hG
   replace hW := hW.mono (hG2.trans hG3)
   replace hW2 := hW2.mono hG3
   refine al hK Ty.i30 rfl ?_
   intro b8 w hK
   refine soS hK Ty.i30 0 rfl rfl rfl rfl (WdS.one hW3) rfl ?_
   intro w hK
   refine nl <| thn <| sq <| sq <| rg <| vl (lsO hK Ty.a30 Ty.s30 1 rfl rfl rfl) <| vl (lsO hK Ty.a30 Ty.s30 0 rfl rfl rfl) <| ?_
   refine cl Tryz.call12 rfl (sameWorld_c hK hW2 hW3) ?_
   rintro _ w ⟨rfl, hK⟩
   refine vl (ntB rfl) <| vl (mB rfl) <| ?_
   refine spl (t := 36) rfl (fun h1 => ?_) (fun h1 => ?_)
   ·exact absurd rfl (not_dec (Eq.mp (Bool.not_eq_true' _) h1))
   ·refine gy rfl <| vl (lsO hK Ty.a30 Ty.s30 3 rfl rfl rfl) <| gy rfl <| ?_
    refine cl Tryz.call13 rfl (specWorldValid_c hK hW om) ?_
    rintro _ w ⟨rfl, hK⟩
    refine gy rfl <| vl (ntB rfl) <| vl (pk rfl) <| vl (mB rfl) <| ?_
    refine spl (t := 41) rfl (fun h2 => ?_) (fun h2 => ?_)
    ·refine gn rfl <| gn rfl <| gn rfl <| gn rfl <| vl (pk rfl) <| nl <| thn <| ?_
     refine cdt rfl ?_
     refine sq <| rg <| ?_
     refine vl (lsO hK Ty.a30 Ty.s30 1 rfl rfl rfl) <| vl (lsO hK Ty.a30 Ty.s30 0 rfl rfl rfl) <| ?_
     refine cl Tryz.call12 rfl (sameWorld_c hK hW2 hW3) ?_
     rintro _ w ⟨rfl, hK⟩
     refine vl (aB rfl) <| nl <| thn <| rt <| thr <| p1r (a := .bool _) rfl <| ?_
     exact ⟨congrArg Value.bool (dec_t rfl), _, _, hK, hG⟩
    ·have hok : WdOk wd := of_dec (Eq.mp (Bool.not_eq_false' _) h2)
     rw [wdF_yes hok] at hW2 hW3
     refine gy rfl <| vl (fa Tryz.underlying30 rfl Ty.z24 rfl) <| gy rfl <| vl (ldO hK Ty.o24 3 rfl rfl rfl) <| gy rfl <| vl (ln Tryz.underlying24 rfl hW.leases.len) <| gy rfl <| vl (eq rfl rfl) <| vl (pk rfl) <| nl <| thn <| ?_
     refine cdP rfl (fun h3 => ?_) (fun h3 => ?_)
     ·refine sq <| rg <| ?_
      refine vl (lsO hK Ty.a30 Ty.s30 1 rfl rfl rfl) <| vl (lsO hK Ty.a30 Ty.s30 0 rfl rfl rfl) <| ?_
      refine cl Tryz.call12 rfl (sameWorld_c hK hW2 hW3) ?_
      rintro _ w ⟨rfl, hK⟩
      refine vl (aB rfl) <| nl <| thn <| rt <| thr <| p1r (a := .bool _) rfl <| ?_
      exact ⟨congrArg Value.bool (dec_t rfl), _, _, hK, hG⟩
     ·have hpt : Pt ((more.length : Int) % 64) := by unfold Pt; omega
      have hrl : rs.length = wd.ring.length := by rw [← hW.rg]; simp [rgl]
      have hr3 := rg_pos hok
      obtain ⟨m, hm1, hm2⟩ : ∃ m : Nat, (more.length : Int) % (rs.length : Int) = (m : Int) ∧ m < rs.length := ⟨more.length % rs.length, by simp, Nat.mod_lt _ (by omega)⟩
      have hid : rs[m].1 ∈ ids wd.ring := by rw [← hW.rg]; exact ids_at hm2
      have hT := hand_law hok hpt hid (by omega)
      refine sk <| thn <| sq <| rg <| ?_
      refine vl mv <| vl (ln Tryz.underlying22 rfl hm.len) <| vl (rm rfl rfl) <| vl (aI rfl) <| nl <| thn <| sq <| rg <| vl (lsO hK Ty.a30 Ty.s30 3 rfl rfl rfl) <| vl (mI rfl) <| ?_
      refine cl Tryz.call15 rfl (WorldOwner_c hK hW om) ?_
      rintro _ w ⟨⟨n, rfl, _, hn, _⟩, G4, hG4, hK⟩
      obtain rfl := hn hok hpt
      have hW := hW.mono hG4
      have hE := hE.mono hG4
      have hs := hW.ring.sl
      refine vl (aI rfl) <| nl <| thn <| sq <| ?_
      refine rgq (fun w => K _ w _ _) Ty.mixed kr (hK.drawn _) ?_
      refine qv (fun w hK => (fa Tryz.underlying30 rfl Ty.z23 rfl)) <| ?_; refine qldO Ty.o23 3 rfl rfl rfl <| ?_; refine qv (fun w hK => mv) <| ?_; refine qv (fun w hK => (ln Tryz.underlying22 rfl hm.len)) <| ?_; refine qv (fun w hK => (fa Tryz.underlying30 rfl Ty.z23 rfl)) <| ?_; refine qldO Ty.o23 3 rfl rfl rfl <| ?_; refine qv (fun w hK => (ln Tryz.underlying23 rfl hs.len)) <| ?_; refine qv (fun w hK => (rm rfl rfl)) <| ?_; refine qv (fun w hK => (ixm (m := m) Tryz.underlying23 Ty.s43 rfl hs.1 rfl om om)) <| ?_; refine qv (fun w hK => (fe Tryz.underlying43 rfl Ty.z3 rfl hs.1 om)) <| ?_; refine qldV Ty.o3 rfl (hs.cell om 0 rfl) <| ?_; refine qv (fun w hK => (aI rfl)) <| ?_; refine qn <| ?_
      intro w hK
      refine thn <| sq <| rg <| vl (lsO hK Ty.a30 Ty.s30 3 rfl rfl rfl) <| vl (mI rfl) <| vl (mI rfl) <| vl (mI rfl) <| vl (bd [(0, _), (1, _), (2, _), (3, _)] Ty.p32 Ty.i32 rfl ⟨⟨rfl, rfl⟩, ⟨rfl, rfl⟩, ⟨rfl, rfl⟩, ⟨rfl, rfl⟩, trivial⟩ rfl) <| ?_
      have hd := (doW_ok hok 7 (own wd ((more.length : Int) % 64)) ((more.length : Int) % 64) rs[m].1).wda.zl
      refine cl Tryz.call10 rfl (implWorldDo_c (kd := 7) hE hK hW hil) ?_
      rintro _ w ⟨G5, W5, q5, hG5, rfl, hW5, hK⟩
      rw [wdF_yes hok] at hW5
      have hW := hW.mono hG5
      refine al hK Ty.i30 rfl ?_
      intro b12 w hK
      refine soS hK Ty.i30 0 rfl rfl rfl rfl (WdS.one hW5) rfl ?_
      intro w hK
      refine nl <| thn <| sq <| sq <| rg <| vl (mI rfl) <| vl (lt rfl rfl) <| nl <| thn <| ?_
      refine cdP rfl (fun h4 => ?_) (fun h4 => ?_)
      ·refine sq <| rg <| ?_
       refine vl (lsO hK Ty.a30 Ty.s30 0 rfl rfl rfl) <| vl (lsO hK Ty.a30 Ty.s30 4 rfl rfl rfl) <| ?_
       refine cl Tryz.call12 rfl (sameWorld_c hK hW5 hW) ?_
       rintro _ w ⟨rfl, hK⟩
       refine vl (aB rfl) <| nl <| thn <| rt <| thr <| p1r (a := .bool _) rfl <| ?_
       exact ⟨congrArg Value.bool (dec_t (hT.1 h4)), _, _, hK, (hG.trans hG4).trans hG5⟩
      ·refine sk <| thn <| sq <| rg <| ?_
       refine vl (lsO hK Ty.a30 Ty.s30 0 rfl rfl rfl) <| vl (mI rfl) <| ?_
       refine cl Tryz.call15 rfl (WorldOwner_c hK hW5 om) ?_
       rintro _ w ⟨⟨n, rfl, _, hn, _⟩, G6, hG6, hK⟩
       have hn3 := (hn (doW_ok hok _ _ _ _) hpt).trans (hT.2 (by omega))
       refine vl (mI rfl) <| vl (eq rfl rfl) <| vl (aB rfl) <| nl <| thn <| rt <| p1r (a := .bool _) rfl <| ?_
       exact ⟨congrArg Value.bool (decide_eq_true hn3), _, _, hK, ((hG.trans hG4).trans hG5).trans hG6⟩
     
end
end Go.Proofs.YtghlkpjhdgceiaaGreatDoor
