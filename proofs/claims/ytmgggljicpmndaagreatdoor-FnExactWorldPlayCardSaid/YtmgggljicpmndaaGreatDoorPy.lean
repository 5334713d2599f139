/- Contracts of the program's functions that make new rings and worlds: they lie in new memory. The law on new worlds, exactly. Plays of a world: contracts. Conditions: those that each row states. -/
import Derived.Test.YtmgggljicpmndaaGreatDoorWi
import Derived.Test.YtmgggljicpmndaaGreatDoorRgG
import Derived.Test.YtmgggljicpmndaaGreatDoorXm
import Derived.Test.YtmgggljicpmndaaGreatDoorSe
import Derived.Test.YtmgggljicpmndaaGreatDoorType
namespace Go.Proofs.YtmgggljicpmndaaGreatDoor
open Go Go.Ro Tryz
section
variable {e w : World} {G : View} {L A : Own} {v u : Value} {xs ys : List Int} {ls ms : List Ls} {rs qs : List Rn} {zs ts : List It} {W W' : Wv} {wd wd' : Wd} {a b k id other : Int} {i j bk o : Nat}
set_option maxHeartbeats 1000000 in
theorem implRingNewF_c (hK : K e w G L) (hv : IntS G v xs) : Ret prog 62 #[v] w (fun r w' => ∃ G' u rs b, r = .tuple #[u, .bool b] ∧ VLe G G' ∧ RngS G' u rs ∧ RgNew 98 3 G G' u rs ∧ (b = true ↔ NdsOk xs ∧ 3 ≤ xs.length) ∧ rgl rs = (if b then idl xs else []) ∧ K e w' G' L) := by
 have hle := hv.le
 refine enter2 (args := [v]) func62 rfl rfl rfl rfl ?_
 refine sq <| rg <| ?_
 refine vl asg <| vl (aB rfl) <| nl <| thn <| sq <| sq <| rg <| vl mv <| ?_
 refine cl call113 rfl (implNodesValid_c hK hv) ?_
 rintro _ w ⟨rfl, hK⟩
 refine vl (ntB rfl) <| vl (mB rfl) <| ?_
 refine spl (t := 13) rfl (fun h1 => ?_) fun h1 => ?_
 ·have h1' := not_dec (Eq.mp (Bool.not_eq_true' _) h1)
  refine gn rfl <| gn rfl <| gn rfl <| vl (pk rfl) <| nl <| thn <| ?_
  refine cdt rfl ?_
  refine sq <| rg <| ?_
  refine vl asg <| vl (aB rfl) <| nl <| thn <| rt <| thr <| p2r (a := _) (b := .bool _) rfl rfl <| ?_
  exact ⟨G, _, [], false, rfl, VLe.refl _, RngS.lit, RgNew.empty SlW.nil0, by simp [h1'], rfl, hK⟩
 ·have h1' := of_dec (Eq.mp (Bool.not_eq_false' _) h1)
  have hx10 : xs.length ≤ 10 := h1'.1.2
  refine gy rfl <| vl mv <| gy rfl <| vl (ln underlying22 rfl hv.len) <| gy rfl <| vl (lt rfl rfl) <| vl (pk rfl) <| nl <| thn <| ?_
  refine cdP rfl (fun h2 => ?_) fun h2 => ?_
  ·refine sq <| rg <| ?_
   refine vl asg <| vl (aB rfl) <| nl <| thn <| rt <| thr <| p2r (a := _) (b := .bool _) rfl rfl <| ?_
   exact ⟨G, _, [], false, rfl, VLe.refl _, RngS.lit, RgNew.empty SlW.nil0, by simp; intro _; omega, rfl, hK⟩
  ·refine sk <| thn <| sq <| rg <| ?_
   refine vl asg <| nl <| thn <| sq <| rg <| vl mv <| vl (ln underlying22 rfl hv.len) <| vl (aI rfl) <| nl <| thn <| sq <| sq <| rg <| vl mv <| vl (ln underlying22 rfl hv.len) <| vl (mI rfl) <| nl <| thn <| ?_
   refine bk <| ?_
   refine lp (σ := Nat × View × Value × List Rn × Own) (fun s => [(0, v), (4, s.2.2.1), (5, .int .i64 (xs.length : Int)), (20, v), (21, .int .i64 (xs.length : Int)), (22, .int .i64 (s.1 : Int))]) (fun s w => s.1 ≤ xs.length ∧ VLe G s.2.1 ∧ rgl s.2.2.2.1 = idTo xs s.1 ∧ OR s.2.1 98 s.2.2.1 s.2.2.2.1 s.2.2.2.2 ∧ RnF 3 G s.2.1 s.2.2.2.1 ∧ K e w s.2.1 (s.2.2.2.2 ++ L)) (fun s => xs.length - s.1) (0, G, .slice none 0 0, [], []) ⟨rfl, rfl, rfl, rfl, rfl, rfl, trivial⟩ ⟨Nat.zero_le _, VLe.refl _, rfl, ⟨OS.nil _ _, fun _ h => by cases h⟩, RnF.nil, hK⟩ ?_
   rintro ⟨i, G1, u, rs, A⟩ g w ⟨hi, hG1, hrg, ho, hnf, hK⟩
   simp only at hi hG1 hrg ho hnf hK
   have hrl : rs.length = i := by rw [← rg_len, hrg]; simp [idTo]
   refine sq <| rg <| ?_
   refine vl (lt rfl rfl) <| nl <| thn <| sq <| ?_
   refine cdP rfl (fun hc => ?_) fun hc => ?_
   ·have hi' : i < xs.length := by simp only at hc; omega
    have hv1 := hv.mono hG1
    have m1 := md (a := (i : Int) + xs.length - 1) (n := xs.length) (by omega)
    refine sk <| thn <| sq <| bk <| sq <| rg <| ?_
    refine vl (mI rfl) <| vl (ixn1 underlying22 Ty.s3 rfl hv1.1 rfl om) <| vl (ldV hK Ty.o3 rfl (hv1.at om)) <| vl (aI rfl) <| vl (aI rfl) <| nl <| thn <| sq <| rg <| vl (mI rfl) <| vl mv <| vl (mI rfl) <| vl (mI rfl) <| vl (ad rfl rfl) <| vl (sb rfl rfl) <| vl (mI rfl) <| vl (rm rfl rfl) <| vl (ix1 underlying22 Ty.s3 rfl hv1.1 rfl om om) <| vl (ldV hK Ty.o3 rfl (hv1.atI om om)) <| vl (bd [(0, _), (1, _)] Ty.p98 Ty.i98 rfl ⟨⟨rfl, rfl⟩, ⟨rfl, rfl⟩, trivial⟩ rfl) <| ?_
    refine al hK Ty.i98 rfl ?_
    intro b8 w hK
    refine soS hK Ty.i98 0 rfl rfl rfl rfl rfl rfl ?_
    intro w hK
    refine nl <| thn <| sq <| sq <| rg <| vl (aI rfl) <| nl <| thn <| bk <| ?_
    refine lp (σ := Nat × Value × Own) (fun s => [(0, v), (4, u), (5, .int .i64 (xs.length : Int)), (6, .int .i64 (i : Int)), (8, .pointer (some ⟨b8, 0, none⟩)), (9, .int .i64 ((s.1 : Int) + 1)), (20, v), (21, .int .i64 (xs.length : Int)), (22, .int .i64 (i : Int))]) (fun s w => s.1 ≤ 2 ∧ OS 1 3 s.2.1 ((afl xs i).take s.1).length (ints ((afl xs i).take s.1)) s.2.2 ∧ K e w G1 ((b8, row [.int .i64 xs[i], .int .i64 (xs.getD (((i : Int) + xs.length - 1) % xs.length).toNat 0), s.2.1] 98) :: (s.2.2 ++ (A ++ L)))) (fun s => 2 - s.1) (0, .slice none 0 0, []) ⟨rfl, rfl, rfl, rfl, rfl, rfl, rfl, rfl, rfl, trivial⟩ ⟨Nat.zero_le _, OS.nil _ _, hK⟩ ?_
    rintro ⟨k, u2, A2⟩ g w ⟨hk, ho2, hK⟩
    simp only at hk ho2 hK
    refine sq <| sq <| rg <| ?_
    refine vl (mI rfl) <| vl (le rfl rfl) <| nl <| thn <| ?_
    refine cdP rfl (fun hc2 => ?_) fun hc2 => ?_
    ·have hk2 : k < 2 := by simp only at hc2; omega
     have m2 := md (a := (i : Int) + ((k : Int) + 1)) (n := xs.length) (by omega)
     refine sk <| thn <| sq <| bk <| ?_
     refine rgs (fun w => K e w G1 L) (fun w => K _ w _ _) [U,U,U,U,U,U,U,U,U,U,U,U,U,U] 14 Ty.mixed rfl rfl (hK.drawn _) ?_
     intro w hK
     have hS : (fun w => K e w G1 L) w := (by first | exact K.dropL (K.dropL (K.drop1 hK)) | exact K.dropL (K.dropL (K.drop1 (K.drop1 hK))))
     refine xt (i := 0) rfl kr rfl rfl (fun w hK => (fa underlying98 rfl Ty.z22 rfl)) hS <| xt (i := 2) rfl kr rfl rfl (fun w hK => mv) hS <| xt (i := 3) rfl kr rfl rfl (fun w hK => (mI rfl)) hS <| xt (i := 4) rfl kr rfl rfl (fun w hK => (mI rfl)) hS <| xt (i := 5) rfl kr rfl rfl (fun w hK => (ad rfl rfl)) hS <| xt (i := 6) rfl kr rfl rfl (fun w hK => (mI rfl)) hS <| xt (i := 7) rfl kr rfl rfl (fun w hK => (rm rfl rfl)) hS <| xt (i := 8) rfl kr rfl rfl (fun w hK => (ix1 underlying22 Ty.s3 rfl hv1.1 rfl om om)) hS <| xt (i := 9) rfl kr rfl rfl (fun w hK => (ldV hK Ty.o3 rfl (by exact hv1.atI om om))) hS <| ?_
     refine xe2 (i := 1) (j := 10) kr rfl rfl rfl rfl ?_ ?_
     ·refine vl (ldO hK Ty.o22 0 rfl rfl rfl) <| ?_
      refine xnk ((by first | exact K.dropL (K.dropL (K.drop1 hK)) | exact K.dropL (K.dropL (K.drop1 (K.drop1 hK))))) fun hS => ?_
      refine xe (i := 10) kr rfl rfl ?_
      refine bsN [.tmp 51] hK underlying22 Ty.i3 rfl rfl rfl rfl rfl rfl rfl rfl ?_
      intro b52 w hK
      refine xnk ((by first | exact K.dropL (K.dropL (K.drop1 hK)) | exact K.dropL (K.dropL (K.drop1 (K.drop1 hK))))) fun hS => ?_
      refine xe (i := 11) kr rfl rfl ?_
      replace hK : K e w G1 ((b52, row [.int .i64 (xs.getD (((i : Int) + ((k : Int) + 1)) % xs.length).toNat 0)] 3) :: (A2 ++ ((b8, row [.int .i64 xs[i], .int .i64 (xs.getD (((i : Int) + xs.length - 1) % xs.length).toNat 0), u2] 98) :: (A ++ L)))) := K.midc (A := [_]) hK
      refine apI1 (xs := (afl xs i).take k) (k := xs.getD (((i : Int) + ((k : Int) + 1)) % xs.length).toNat 0) hK underlying22 Ty.i3 rfl rfl ho2 rfl (by simp; omega) fun v3 A3 w ho3 hK => ?_
      rw [afl_succ xs i k hk2] at ho3
      replace hK := K.mid (A := A3) (B := [_]) hK
      refine xnk (((K.dropL (K.dropL (K.drop1 hK))))) fun hS => ?_
      refine xt (i := 12) rfl kr rfl rfl (fun w hK => (fa underlying98 rfl Ty.z22 rfl)) hS <| ?_
      refine xe (i := 13) kr rfl rfl ?_
      refine so hK Ty.i22 rfl 0 rfl rfl rfl ho3.one rfl ?_
      intro w hK
      refine xnk ((by first | exact K.dropL (K.dropL (K.drop1 hK)) | exact K.dropL (K.dropL (K.drop1 (K.drop1 hK))))) fun hS => ?_
      refine xd kr <| bkn <| thn <| rg <| vl (mI rfl) <| vl (ad rfl rfl) <| vl (aI rfl) <| nl <| thn <| ?_
      exact ⟨(k + 1, v3, A3), ⟨rfl, rfl, rfl, rfl, rfl, rfl, rfl, rfl, rfl, trivial⟩, ⟨by simp only; omega, ho3, hK⟩, by simp only; omega⟩
     ·refine bsN [.tmp 51] hK underlying22 Ty.i3 rfl rfl rfl rfl rfl rfl rfl rfl ?_
      intro b52 w hK
      refine xnk ((by first | exact K.dropL (K.dropL (K.drop1 hK)) | exact K.dropL (K.dropL (K.drop1 (K.drop1 hK))))) fun hS => ?_
      refine xe (i := 1) kr rfl rfl ?_
      refine vl (ldO hK Ty.o22 1 rfl rfl rfl) <| ?_
      refine xnk ((by first | exact K.dropL (K.dropL (K.drop1 hK)) | exact K.dropL (K.dropL (K.drop1 (K.drop1 hK))))) fun hS => ?_
      refine xe (i := 11) kr rfl rfl ?_
      replace hK : K e w G1 ((b52, row [.int .i64 (xs.getD (((i : Int) + ((k : Int) + 1)) % xs.length).toNat 0)] 3) :: (A2 ++ ((b8, row [.int .i64 xs[i], .int .i64 (xs.getD (((i : Int) + xs.length - 1) % xs.length).toNat 0), u2] 98) :: (A ++ L)))) := K.midc (A := [_]) hK
      refine apI1 (xs := (afl xs i).take k) (k := xs.getD (((i : Int) + ((k : Int) + 1)) % xs.length).toNat 0) hK underlying22 Ty.i3 rfl rfl ho2 rfl (by simp; omega) fun v3 A3 w ho3 hK => ?_
      rw [afl_succ xs i k hk2] at ho3
      replace hK := K.mid (A := A3) (B := [_]) hK
      refine xnk (((K.dropL (K.dropL (K.drop1 hK))))) fun hS => ?_
      refine xt (i := 12) rfl kr rfl rfl (fun w hK => (fa underlying98 rfl Ty.z22 rfl)) hS <| ?_
      refine xe (i := 13) kr rfl rfl ?_
      refine so hK Ty.i22 rfl 0 rfl rfl rfl ho3.one rfl ?_
      intro w hK
      refine xnk ((by first | exact K.dropL (K.dropL (K.drop1 hK)) | exact K.dropL (K.dropL (K.drop1 (K.drop1 hK))))) fun hS => ?_
      refine xd kr <| bkn <| thn <| rg <| vl (mI rfl) <| vl (ad rfl rfl) <| vl (aI rfl) <| nl <| thn <| ?_
      exact ⟨(k + 1, v3, A3), ⟨rfl, rfl, rfl, rfl, rfl, rfl, rfl, rfl, rfl, trivial⟩, ⟨by simp only; omega, ho3, hK⟩, by simp only; omega⟩
    ·have hk2 : k = 2 := by simp only at hc2; omega
     subst hk2
     refine ex <| the <| the <| bkh <| thn <| rg <| ?_
     refine vl mv <| vl (lsO hK Ty.a98 Ty.s98 0 rfl rfl rfl) <| ?_
     refine bsS1 hK underlying25 Ty.i98 rfl rfl rfl rfl rfl rfl ?_
     intro b57 w hK
     replace hK : K e w G1 ((b57, row (rc (xs[i], (xs.getD (((i : Int) + xs.length - 1) % xs.length).toNat 0), u2, afl xs i)) 98) :: (A ++ ((b8, row [.int .i64 xs[i], .int .i64 (xs.getD (((i : Int) + xs.length - 1) % xs.length).toNat 0), u2] 98) :: (A2 ++ L)))) := hK.cnt fun f => by simp only [List.map_append, List.map_cons, List.sum_append, List.sum_cons, rc]; omega
     refine apR1 (xs := rs) (k := (xs[i], (xs.getD (((i : Int) + xs.length - 1) % xs.length).toNat 0), u2, afl xs i)) (rc_one ho2.one) hK underlying25 Ty.i98 rfl rfl rfl ho.os rfl om fun v3 A3 w ho3 hK => ?_
     replace hK := K.swap2 (K.dropX hK)
     obtain ⟨G2, hG2, hx', hxn, hxb, hK⟩ := K.pubOF (xs := afl xs i) hK ho2 hG1
     have hres : rgl (rs ++ [((xs[i], (xs.getD (((i : Int) + xs.length - 1) % xs.length).toNat 0), u2, afl xs i) : Rn)]) = idTo xs (i + 1) := by rw [rgl_snoc, hrg, idTo_succ]; unfold idN; rw [← getD_of hi']; rfl
     refine vl asg <| nl <| bkn <| thn <| rg <| vl (ad rfl rfl) <| vl (mI rfl) <| nl <| thn <| ?_
     exact ⟨(i + 1, G2, v3, rs ++ [((xs[i], (xs.getD (((i : Int) + xs.length - 1) % xs.length).toNat 0), u2, afl xs i) : Rn)], A3), ⟨rfl, rfl, rfl, rfl, rfl, rfl, trivial⟩, ⟨hi', hG1.trans hG2, hres, ⟨ho3, fun x hx => by
      rcases List.mem_append.1 hx with h | h
      ·exact (ho.aft x h).mono hG2
      ·rw [List.mem_singleton.1 h]; exact hx'⟩, hnf.snoc hxn hG2 hxb, hK⟩, by simp only; omega⟩
   ·have hi' : i = xs.length := by simp only at hc; omega
    subst hi'
    refine ex <| the <| the <| bkh <| thn <| sq <| rg <| ?_
    refine vl mv <| vl asg <| vl (aB rfl) <| nl <| thn <| rt <| p2r (a := _) (b := .bool _) rfl rfl <| ?_
    obtain ⟨G2, hG2, hR, hRn, hK⟩ := ho.pubF hnf hK hG1
    exact ⟨G2, _, rs, true, rfl, hG1.trans hG2, hR, hRn, by simp [h1']; omega, hrg, hK⟩
end
open Go Go.Ro Tryz
section
variable {e w : World} {G : View} {L A AR AL AI AT AS : Own} {v u : Value} {xs ys : List Int} {rs qs : List Rn} {os : List Ron} {W W' : Wv} {wd wd' : Wd} {n m k : Int}
theorem eqWorld_t (hK : K e w G L) (hW : WdS G lc W wd rs) (hW' : WdS G lc W' wd qs) : Ret prog 10 #[.agg (wc W).toArray, .agg (wc W').toArray] w (fun r w' => r = .bool true ∧ K e w' G L) :=
 (eqWorld_c hK hW hW').mono fun _ _ ⟨h1, h2⟩ => ⟨by rw [h1, dec_t rfl], h2⟩
theorem eqWorld_ot (hK : K e w G (AR ++ (flat (uso os) ++ (AL ++ (AI ++ (AT ++ (AS ++ L))))))) (h : WdT lc 98 101 104 3 W wd os AR AL AI AT AS) (hg : W.now = wd.now ∧ rgl (toRs os) = wd.ring ∧ W.next = wd.scan.1) (hW' : WdS G lc W' wd qs) :
  Ret prog 10 #[.agg (wc W).toArray, .agg (wc W').toArray] w (fun r w' => r = .bool true ∧ K e w' G (AR ++ (flat (uso os) ++ (AL ++ (AI ++ (AT ++ (AS ++ L))))))) :=
 (eqWorld_o hK h hg hW').mono fun _ _ ⟨h1, h2⟩ => ⟨by rw [h1, dec_t rfl], h2⟩
end
open Go Go.Ro Tryz
section
variable {e w : World} {G : View} {L A : Own} {v u cva : Value} {xs ys code : List Int} {es : List Ev} {rs qs : List Rn} {W W' : Wv} {wd wd' : Wd} {a b c k kd p : Int} {a0 a1 : Addr} {rb : Nat}
theorem WdO.fresh {tI tS : TypeId} (h : WdS G lc W wd rs) (hi : W.i = .slice none 0 0) (hs : W.s = .slice none 0 0) (h1 : wd.items = []) (h2 : wd.since = []) : WdO G lc tI tS W wd rs [] [] :=
 ⟨h.now, h.ring, h.rg, h.leases, by rw [hi, h1]; exact .inl (OS.nil _ _), h.next, h.told, by rw [hs, h2]; exact .inl (OS.nil _ _)⟩
theorem specWorldPlay_c (hK : K e w G L) (hv : IntS G v xs) (hu : EvS G u es) :
  Ret prog 6 #[v, u] w (fun r w' => ∃ G' W wd rs b, r = .tuple #[.agg (wc W).toArray, .bool b] ∧ VLe G G' ∧ WdS G' lc W wd rs ∧ (b = true ↔ PlOk xs es) ∧ wd = (if b then plF xs es else wdZ) ∧ K e w' G' L) := by
 have hle := hu.1.le
 refine enterG2 (args := [v, u]) func6 rfl rfl rfl rfl ?_
 refine sq <| rg <| ?_
 refine al hK Ty.i31 rfl ?_
 intro b4 w hK
 refine vl (aB rfl) <| nl <| thn <| sq <| rg <| vl mv <| ?_
 refine cl call22 rfl (specWorldNew_c hK hv) ?_
 rintro _ w ⟨G1, W, wd, rs, b, rfl, hG1, hW, hb, hwd, hK⟩
 refine vl mv <| vl (ext rfl rfl) <| vl (ext rfl rfl) <| ?_
 refine al hK Ty.i31 rfl ?_
 intro b6 w hK
 refine soS hK Ty.i31 0 rfl rfl rfl rfl (WdS.one hW) rfl ?_
 intro w hK
 refine vl (aB rfl) <| nl <| thn <| sq <| sq <| rg <| vl (mB rfl) <| vl (ntB rfl) <| vl (mB rfl) <| ?_
 refine spl (t := 16) rfl (fun h1 => ?_) fun h1 => ?_
 ·have h1' : b = false := Eq.mp (Bool.not_eq_true' _) h1
  refine gn rfl <| gn rfl <| gn rfl <| vl (pk rfl) <| nl <| thn <| ?_
  refine cdt rfl ?_
  refine sq <| rg <| ?_
  refine vl (bd [] Ty.p31 Ty.i31 rfl trivial rfl) <| ?_
  refine soS hK Ty.i31 1 rfl rfl rfl rfl rfl rfl ?_
  intro w hK
  refine vl (aB rfl) <| nl <| thn <| rt <| thr <| pg2r (rvS hK Ty.a31 Ty.s31 1 rfl rfl rfl) (rvT (v := .bool _) rfl) <| ?_
  exact ⟨G1, ⟨0, .slice none 0 0, .slice none 0 0, .slice none 0 0, 0, .slice none 0 0, .slice none 0 0⟩, wdZ, [], false, rfl, hG1, WdS.zero, ⟨fun h => (by cases h), fun h => (by rw [hb.2 h.1] at h1'; cases h1')⟩, rfl, hK.drop1.drop1⟩
 ·have h1' : b = true := Eq.mp (Bool.not_eq_false' _) h1
  have hok := hb.1 h1'
  rw [h1', if_pos rfl] at hwd
  have hok0 : WdOk wd := by rw [hwd]; exact newW_ok hok.1 hok.2
  refine gy rfl <| vl mv <| gy rfl <| vl (ln underlying35 rfl hu.len) <| gy rfl <| vl (gt rfl rfl) <| vl (pk rfl) <| nl <| thn <| ?_
  refine cdP rfl (fun h2 => ?_) fun h2 => ?_
  ·refine sq <| rg <| ?_
   refine vl (bd [] Ty.p31 Ty.i31 rfl trivial rfl) <| ?_
   refine soS hK Ty.i31 1 rfl rfl rfl rfl rfl rfl ?_
   intro w hK
   refine vl (aB rfl) <| nl <| thn <| rt <| thr <| pg2r (rvS hK Ty.a31 Ty.s31 1 rfl rfl rfl) (rvT (v := .bool _) rfl) <| ?_
   exact ⟨G1, ⟨0, .slice none 0 0, .slice none 0 0, .slice none 0 0, 0, .slice none 0 0, .slice none 0 0⟩, wdZ, [], false, rfl, hG1, WdS.zero, ⟨fun h => (by cases h), fun h => (by have := h.2; omega)⟩, rfl, hK.drop1.drop1⟩
  ·have hpl : PlOk xs es := ⟨hok, by omega⟩
   refine sk <| thn <| sq <| sq <| rg <| ?_
   refine vl (aI rfl) <| nl <| thn <| bk <| ?_
   refine lp (σ := Nat × View × Wv × List Rn) (fun s => [(1, u), (4, .pointer (some ⟨b4, 0, none⟩)), (5, .bool false), (6, .pointer (some ⟨b6, 0, none⟩)), (8, .int .i64 (s.1 : Int))]) (fun s w => s.1 ≤ es.length ∧ VLe G1 s.2.1 ∧ WdS s.2.1 lc s.2.2.1 (plE wd (es.take s.1)) s.2.2.2 ∧ K e w s.2.1 ((b6, row (wc s.2.2.1) 31) :: (b4, row [.int .i64 0, .slice none 0 0, .slice none 0 0, .slice none 0 0, .int .i64 0, .slice none 0 0, .slice none 0 0] 31) :: L)) (fun s => es.length - s.1) (0, G1, W, rs) ⟨rfl, rfl, rfl, rfl, rfl, trivial⟩ ⟨Nat.zero_le _, VLe.refl _, hW, hK⟩ ?_
   clear hW hK
   rintro ⟨i, G2, W2, q2⟩ g w ⟨hi, hG2, hW2, hK⟩
   simp only at hi hG2 hW2 hK
   replace hu := EF.mono hu (hG1.trans hG2)
   refine sq <| sq <| rg <| ?_
   refine vl (mI rfl) <| vl mv <| vl (ln underlying35 rfl hu.len) <| vl (lt rfl rfl) <| nl <| thn <| ?_
   refine cdP rfl (fun hc => ?_) fun hc => ?_
   ·have hi' : i < es.length := by simp only at hc; omega
    have hok2 : WdOk (plE wd (es.take i)) := plE_ok _ hok0
    refine sk <| thn <| sq <| bk <| ?_
    refine rgs (fun w => K e w G2 L) (fun w => K _ w _ _) [U,U,U,U,U,U,U] 7 Ty.mixed rfl rfl (hK.drawn _) ?_
    intro w hK
    have hS : (fun w => K e w G2 L) w := K.sl hK
    refine xt (i := 1) rfl kr rfl rfl (fun w hK => mv) hS <| xt (i := 2) rfl kr rfl rfl (fun w hK => (mI rfl)) hS <| xt (i := 3) rfl kr rfl rfl (fun w hK => (ixm (m := i) underlying35 Ty.s55 rfl hu.1 rfl om om)) hS <| xt (i := 4) rfl kr rfl rfl (fun w hK => (lsF hK Ty.a55 Ty.s55 rfl hu om)) hS <| ?_
    refine xe (i := 0) kr rfl rfl ?_
    refine vl (lsO hK Ty.a31 Ty.s31 0 rfl rfl rfl) <| ?_
    refine xnk (K.sl hK) fun hS => ?_
    refine xe (i := 5) kr rfl rfl ?_
    refine cl call23 rfl (l51Do_c (kd := es[i].1) (a := es[i].2.1) (b := es[i].2.2.1) (c := es[i].2.2.2) hK hW2 hok2.wda) ?_
    rintro _ w ⟨G3, W3, q3, hG3, rfl, hW3, hK⟩
    refine xnk ((K.vle (K.sl hK) hG3)) fun hS => ?_
    refine xe (i := 6) kr rfl rfl ?_
    refine soS hK Ty.i31 0 rfl rfl rfl rfl (WdS.one hW3) rfl ?_
    intro w hK
    refine xnk ((K.vle (K.sl hK) hG3)) fun hS => ?_
    refine xd kr <| bkn <| thn <| rg <| vl (mI rfl) <| vl (ad rfl rfl) <| vl (aI rfl) <| nl <| thn <| ?_
    exact ⟨(i + 1, G3, W3, q3), ⟨rfl, rfl, rfl, rfl, rfl, trivial⟩, ⟨hi', hG2.trans hG3, by rw [plE_take hi']; exact hW3, hK⟩, by simp only; omega⟩
   ·have hi' : i = es.length := by simp only at hc; omega
    subst hi'
    rw [List.take_length] at hW2
    have hd : WdOk (plE wd es) := plE_ok _ hok0
    refine ex <| the <| the <| bkh <| thn <| sq <| rg <| ?_
    refine vl (lsO hK Ty.a31 Ty.s31 0 rfl rfl rfl) <| ?_
    refine cl call24 rfl (l51Copy_c hK hW2 hd.2.1.1 (by have := hd.2.2.1.1; omega) (by have := hd.wda.zl; omega) (by have := hd.2.2.2.2.1.2.1.len; omega) (by have := hd.2.2.2.2.2.1.len; omega)) ?_
    rintro _ w ⟨G3, W3, q3, hG3, rfl, hW3, hK⟩
    refine soS hK Ty.i31 1 rfl rfl rfl rfl (WdS.one hW3) rfl ?_
    intro w hK
    refine vl (aB rfl) <| nl <| thn <| rt <| pg2r (rvS hK Ty.a31 Ty.s31 1 rfl rfl rfl) (rvT (v := .bool _) rfl) <| ?_
    exact ⟨G3, W3, _, q3, true, rfl, (hG1.trans hG2).trans hG3, hW3, ⟨fun _ => hpl, fun _ => rfl⟩, by rw [hwd]; rfl, hK.drop1.drop1⟩
end
end Go.Proofs.YtmgggljicpmndaaGreatDoor
