/- The program's renewing of leases and its copies of worlds: in new memory. The program's items of a world whose lists lie in new memory. Conditions: those that each row states. -/
import Derived.Test.YtmgggljicpmndaaGreatDoorRv
import Derived.Test.YtmgggljicpmndaaGreatDoorXl1
import Derived.Test.YtmgggljicpmndaaGreatDoorXr1
import Derived.Test.YtmgggljicpmndaaGreatDoorWc
import Derived.Test.YtmgggljicpmndaaGreatDoorType
namespace Go.Proofs.YtmgggljicpmndaaGreatDoor
open Go Go.Ro Tryz
section
variable {e w : World} {G G0 : View} {L A : Own} {v u : Value} {ls ms : List Ls} {k fr at' to un key now ow : Int} {i : Nat} {a0 a1 : Addr}
set_option maxHeartbeats 1000000 in
theorem LeaseRenewF_c (hK : K e w G L) (hv : LeaS G v ls) : Ret prog 122 #[v, .int .i64 ow, .int .i64 now, .int .i64 un] w (fun r w' => ∃ G' u n, VLe G G' ∧ r = .tuple #[u, .int .i64 n] ∧ (¬ (LsOk ls ∧ Pt ow ∧ Tm now ∧ Tm un) → n = -1) ∧ ((LsOk ls ∧ Pt ow ∧ Tm now ∧ Tm un) → n = (renewN ls ow now un : Int) ∧ LeaS G' u (renewL ls ow now un) ∧ New 3 101 G G' u (renewL ls ow now un).length ((renewL ls ow now un).flatMap lc)) ∧ K e w' G' L) := by
 refine enter2 (args := [v, .int .i64 ow, .int .i64 now, .int .i64 un]) func122 rfl rfl rfl rfl ?_
 refine sq <| rg <| ?_
 refine vl asg <| vl (aI rfl) <| nl <| thn <| sq <| sq <| rg <| vl mv <| ?_
 refine cl call84 rfl (implLeasesValid_c hK hv) ?_
 rintro _ w ⟨rfl, hK⟩
 refine vl (ntB rfl) <| vl (mB rfl) <| ?_
 refine spl (t := 17) rfl (fun h1 => ?_) fun h1 => ?_
 ·have h1' := not_dec (Eq.mp (Bool.not_eq_true' _) h1)
  refine gn rfl <| gn rfl <| gn rfl <| vl (pk rfl) <| vl (mB rfl) <| gn rfl <| gn rfl <| gn rfl <| gn rfl <| gn rfl <| vl (pk rfl) <| nl <| thn <| ?_
  refine cdt rfl ?_
  refine sq <| rg <| ?_
  refine vl asg <| vl (aI rfl) <| nl <| thn <| rt <| thr <| p2r (a := _) (b := .int _ _) rfl rfl <| ?_
  exact ⟨G, _, _, VLe.refl _, rfl, fun _ => rfl, fun h => absurd h.1 h1', hK⟩
 ·have h1' := of_dec (Eq.mp (Bool.not_eq_false' _) h1)
  have hlen := h1'.1.2
  refine gy rfl <| vl (mI rfl) <| gy rfl <| ?_
  refine cl call137 rfl (posok_c (C := fun w => K _ w _ _) hK) ?_
  rintro _ w ⟨rfl, hK⟩
  refine gy rfl <| vl (nt rfl) <| vl (pk rfl) <| vl (mB rfl) <| ?_
  refine splP (t := 22) rfl (fun h2 => ?_) fun h2 => ?_
  ·refine gn rfl <| gn rfl <| gn rfl <| gn rfl <| gn rfl <| vl (pk rfl) <| nl <| thn <| ?_
   refine cdt rfl ?_
   refine sq <| rg <| ?_
   refine vl asg <| vl (aI rfl) <| nl <| thn <| rt <| thr <| p2r (a := _) (b := .int _ _) rfl rfl <| ?_
   exact ⟨G, _, _, VLe.refl _, rfl, fun _ => rfl, fun h => absurd h.2.1 h2, hK⟩
  ·have h2a := Decidable.not_not.1 h2
   refine gy rfl <| vl (mI rfl) <| gy rfl <| vl (mI rfl) <| gy rfl <| ?_
   refine bsN [.tmp 23, .tmp 24] hK underlying22 Ty.i3 rfl rfl rfl rfl rfl rfl rfl rfl ?_
   intro b25 w hK
   refine gy rfl <| ?_
   refine cl call82 rfl (times_o (xs := [now, un]) hK rfl) ?_
   rintro _ w ⟨rfl, hK⟩
   refine gy rfl <| vl (ntB rfl) <| vl (pk rfl) <| nl <| thn <| ?_
   refine cdB rfl (fun h3 => ?_) fun h3 => ?_
   ·have h3' := not_dec (Eq.mp (Bool.not_eq_true' _) h3)
    refine sq <| rg <| ?_
    refine vl asg <| vl (aI rfl) <| nl <| thn <| rt <| thr <| p2r (a := _) (b := .int _ _) rfl rfl <| ?_
    exact ⟨G, _, _, VLe.refl _, rfl, fun _ => rfl, fun h => absurd (mk2 ⟨h.2.2.1, h.2.2.2⟩) h3', hK.drop1⟩
   ·have h3a := of_dec (Eq.mp (Bool.not_eq_false' _) h3)
    have hok : LsOk ls ∧ Pt ow ∧ Tm now ∧ Tm un := ⟨h1', h2a, h3a now (by simp), h3a un (by simp)⟩
    replace hK := hK.drop1
    refine sk <| thn <| sq <| rg <| ?_
    refine vl mv <| ?_
    refine cl call92 rfl (cloneL_c hK hv om) ?_
    rintro v' w ⟨A1, ho, hK⟩
    have hsl := ho.slw.len
    refine vl asg <| vl (aI rfl) <| nl <| thn <| sq <| sq <| rg <| vl mv <| vl (ln underlying26 rfl (by assumption)) <| vl (mI rfl) <| nl <| thn <| bk <| ?_
    refine lp (σ := Nat × Own) (fun s => [(1, .int .i64 ow), (2, .int .i64 now), (3, .int .i64 un), (10, v'), (11, .int .i64 ((ls.take s.1).countP (rnw ow now un) : Int)), (31, v'), (32, .int .i64 (ls.length : Int)), (33, .int .i64 (s.1 : Int))]) (fun s w => s.1 ≤ ls.length ∧ OS 3 101 v' ls.length (((ls.take s.1).map (rn1 ow now un) ++ ls.drop s.1).flatMap lc) s.2 ∧ K e w G (s.2 ++ L)) (fun s => ls.length - s.1) (0, A1) ⟨rfl, rfl, rfl, rfl, rfl, rfl, rfl, rfl, trivial⟩ ⟨Nat.zero_le _, ho, hK⟩ ?_
    rintro ⟨i, A⟩ g w ⟨hi, ho, hK⟩
    simp only at hi ho hK
    refine sq <| rg <| ?_
    refine vl (lt rfl rfl) <| nl <| thn <| sq <| ?_
    refine cdP rfl (fun hc => ?_) fun hc => ?_
    ·have hi' : i < ls.length := by simp only at hc; omega
     have hcn : (ls.take i).countP (rnw ow now un) ≤ i := Nat.le_trans List.countP_le_length (by simp; omega)
     refine sk <| thn <| sq <| bk <| sq <| rg <| ?_
     refine vl (mI rfl) <| vl (ixn underlying26 Ty.s101 rfl ho.slw rfl hi') <| vl (lsW (sz := 3) (i := i) (u := lc ls[i]) hK ho Ty.a101 Ty.s101 rfl rfl hi' (at_flat (rn_get hi'))) <| ?_
     refine al hK Ty.i101 rfl ?_
     intro b13 w hK
     refine vl (aI rfl) <| ?_
     refine soS hK Ty.i101 0 rfl rfl rfl rfl rfl rfl ?_
     intro w hK
     refine nl <| thn <| sq <| rg <| vl (fa underlying101 rfl Ty.z3 rfl) <| vl (ldO hK Ty.o3 0 rfl rfl rfl) <| vl (mI rfl) <| vl (eq rfl rfl) <| vl (mB rfl) <| ?_
     refine splP (t := 42) rfl (fun h5 => ?_) fun h5 => ?_
     ·refine gy rfl <| vl (fa underlying101 rfl Ty.z3 rfl) <| gy rfl <| vl (ldO hK Ty.o3 0 rfl rfl rfl) <| gy rfl <| vl (mI rfl) <| gy rfl <| vl (ge rfl rfl) <| vl (pk rfl) <| vl (mB rfl) <| ?_
      refine splP (t := 48) rfl (fun h6 => ?_) fun h6 => ?_
      ·refine gy rfl <| vl (fa underlying101 rfl Ty.z3 rfl) <| gy rfl <| vl (ldO hK Ty.o3 0 rfl rfl rfl) <| gy rfl <| vl (mI rfl) <| gy rfl <| vl (lt rfl rfl) <| vl (pk rfl) <| nl <| thn <| ?_
       refine cdP rfl (fun h7 => ?_) fun h7 => ?_
       ·have hr : rnw ow now un ls[i] = true := decide_eq_true ⟨h5, by omega, h7⟩
        have h1r : rn1 ow now un ls[i] = (ls[i].1, ls[i].2.1, un) := by unfold rn1; rw [hr]; rfl
        refine sq <| rg <| ?_
        refine vl mv <| vl (mI rfl) <| vl (mI rfl) <| vl (ixn underlying26 Ty.s101 rfl ho.slw rfl hi') <| vl (fe underlying101 rfl Ty.z3 rfl ho.slw om) <| ?_
        refine osSetC (i := i * 3 + 2) (u := .int .i64 un) hK.drop1 ho om Ty.i3 rfl rfl rfl rfl fun A2 w ho2 hK => ?_
        rw [flat_set (c := lc) (fun _ => rfl) _ i 2 ls[i] (ls[i].1, ls[i].2.1, un) (.int .i64 un) (rn_get hi') (by omega) rfl, ← h1r, rn_step hi'] at ho2
        refine nl <| thn <| rg <| vl (mI rfl) <| vl (ad rfl rfl) <| vl (aI rfl) <| nl <| bkn <| thn <| rg <| vl (ad rfl rfl) <| vl (mI rfl) <| nl <| thn <| ?_
        exact ⟨(i + 1, A2), ⟨rfl, rfl, rfl, rfl, congrArg (Value.int .i64) (by simp only; rw [rn_count hi', hr]; simp), rfl, rfl, rfl, trivial⟩, ⟨hi', ho2, hK⟩, by simp only; omega⟩
       ·refine sk <| bkn <| thn <| rg <| ?_
        refine vl (ad rfl rfl) <| vl (mI rfl) <| nl <| thn <| ?_
        have hr : rnw ow now un ls[i] = false := decide_eq_false fun h => h7 h.2.2
        have h1r : rn1 ow now un ls[i] = ls[i] := by unfold rn1; rw [hr]; rfl
        exact ⟨(i + 1, A), ⟨rfl, rfl, rfl, rfl, congrArg (Value.int .i64) (by simp only; rw [rn_count hi', hr]; rfl), rfl, rfl, rfl, trivial⟩, ⟨hi', by
         have := rn_step (ow := ow) (now := now) (un := un) hi'
         rw [h1r] at this
         simp only
         rw [← this, rn_same hi']; exact ho, hK.drop1⟩, by simp only; omega⟩
      ·refine gn rfl <| gn rfl <| gn rfl <| gn rfl <| vl (pk rfl) <| nl <| thn <| ?_
       refine cdf rfl ?_
       refine sk <| bkn <| thn <| rg <| ?_
       refine vl (ad rfl rfl) <| vl (mI rfl) <| nl <| thn <| ?_
       have hr : rnw ow now un ls[i] = false := decide_eq_false fun h => h6 (by have := h.2.1; omega)
       have h1r : rn1 ow now un ls[i] = ls[i] := by unfold rn1; rw [hr]; rfl
       exact ⟨(i + 1, A), ⟨rfl, rfl, rfl, rfl, congrArg (Value.int .i64) (by simp only; rw [rn_count hi', hr]; rfl), rfl, rfl, rfl, trivial⟩, ⟨hi', by
        have := rn_step (ow := ow) (now := now) (un := un) hi'
        rw [h1r] at this
        simp only
        rw [← this, rn_same hi']; exact ho, hK.drop1⟩, by simp only; omega⟩
     ·refine gn rfl <| gn rfl <| gn rfl <| gn rfl <| vl (pk rfl) <| vl (mB rfl) <| gn rfl <| gn rfl <| gn rfl <| gn rfl <| vl (pk rfl) <| nl <| thn <| ?_
      refine cdf rfl ?_
      refine sk <| bkn <| thn <| rg <| ?_
      refine vl (ad rfl rfl) <| vl (mI rfl) <| nl <| thn <| ?_
      have hr : rnw ow now un ls[i] = false := decide_eq_false fun h => h5 h.1
      have h1r : rn1 ow now un ls[i] = ls[i] := by unfold rn1; rw [hr]; rfl
      exact ⟨(i + 1, A), ⟨rfl, rfl, rfl, rfl, congrArg (Value.int .i64) (by simp only; rw [rn_count hi', hr]; rfl), rfl, rfl, rfl, trivial⟩, ⟨hi', by
       have := rn_step (ow := ow) (now := now) (un := un) hi'
       rw [h1r] at this
       simp only
       rw [← this, rn_same hi']; exact ho, hK.drop1⟩, by simp only; omega⟩
    ·have hi' : i = ls.length := by simp only at hc; omega
     subst hi'
     rw [List.drop_length, List.append_nil, List.take_length] at ho
     rw [List.take_length]
     have ho' : OS 3 101 v' (renewL ls ow now un).length ((renewL ls ow now un).flatMap lc) A := by unfold renewL; rw [List.length_map]; exact ho
     refine ex <| the <| the <| bkh <| thn <| sq <| rg <| ?_
     refine vl mv <| vl (mI rfl) <| vl asg <| vl (aI rfl) <| nl <| thn <| rt <| p2r (a := _) (b := .int _ _) rfl rfl <| ?_
     have hpub := K.pubEF lc_len hK ho' (VLe.refl _)
     clear ho ho' hK
     obtain ⟨G2, hG2, hx, hxn, hxb, hK⟩ := hpub
     exact ⟨G2, _, _, hG2, rfl, fun h => absurd hok h, fun _ => ⟨rfl, hx, hxn⟩, hK⟩
end
open Go Go.Ro Tryz
section
variable {e w : World} {G G0 : View} {L A AI AS : Own} {v u m0 m1 : Value} {rs qs : List Rn} {zs : List It} {W W' : Wv} {wd wd' : Wd} {a b c k kd id other key : Int} {i bk o : Nat}
set_option maxHeartbeats 1000000 in
theorem putF_c (h : WdP G0 G 98 101 lc 104 3 W wd rs AI AS) (hK : K e w G ((bk, row (m0 :: m1 :: wc W) 69) :: (AI ++ (AS ++ L)))) (hit : ItOk wd.items) (hl : wd.items.length ≤ 100000) (hk : Pt k) :
  Ret prog 123 #[.pointer (some ⟨bk, 2, none⟩), .int .i64 k, .int .i64 c] w (fun r w' => r = .tuple #[] ∧ ∃ W' AI', WdP G0 G 98 101 lc 104 3 W' { wd with items := itf k c false wd.items } rs AI' AS ∧ K e w' G ((bk, row (m0 :: m1 :: wc W') 69) :: (AI' ++ (AS ++ L)))) := by
 refine enter0 (args := [.pointer (some ⟨bk, 2, none⟩), .int .i64 k, .int .i64 c]) func123 rfl rfl rfl rfl ?_
 refine sq <| rg <| ?_
 refine vl mv <| vl (mI rfl) <| ?_
 have hall := h.all hK
 clear hK
 obtain ⟨Gf, hGf, hWf, hcf, hK, hback⟩ := hall
 refine cl call160 rfl (findItem_c hK hcf hWf hit om hk) ?_
 rintro _ w ⟨⟨i, b, rfl, hb⟩, hK⟩
 replace hK := hback _ _ hK
 clear hback hcf hWf hGf
 refine vl mv <| vl (ext rfl rfl) <| vl (ext rfl rfl) <| vl (aI rfl) <| vl (aB rfl) <| nl <| thn <| sq <| rg <| vl (mB rfl) <| nl <| thn <| ?_
 refine cdB rfl (fun hbt => ?_) fun hbt => ?_
 ·subst hbt
  obtain ⟨hi, hkk, he⟩ := itf_put (c := c) (it_pw hit) hb
  have ho : OS 2 104 W.i wd.items.length (wd.items.flatMap ic) AI := h.items.resolve_right fun h => by have := h.1; omega
  refine rg <| ?_
  refine vl mv <| vl (nc rfl) <| vl (fa underlying31 rfl Ty.z27 rfl) <| vl (ldO hK Ty.o27 0 rfl rfl rfl) <| vl (mI rfl) <| vl (mI rfl) <| vl (ixn underlying27 Ty.s104 rfl ho.slw rfl hi) <| vl (fe underlying104 rfl Ty.z3 rfl ho.slw om) <| ?_
  refine osSetC (i := i * 2 + 1) (u := .int .i64 c) (K.mid (A := [_]) (B := AI) hK) ho om Ty.i3 rfl rfl rfl rfl fun A' w ho hK => ?_
  rw [flat_set (c := ic) (sz := 2) (fun _ => rfl) wd.items i 1 wd.items[i] (k, c) (.int .i64 c) (List.getElem?_eq_getElem hi) (by omega) (by rw [← hkk]; rfl)] at ho
  have ho' : OS 2 104 W.i (itf k c false wd.items).length ((itf k c false wd.items).flatMap ic) A' := by rw [he, List.length_set]; exact ho
  refine nl <| p0n <| ?_
  exact ⟨rfl, W, A', ⟨⟨h.now, h.ring, h.rg, h.leases, .inl ho', h.next, h.told, h.since⟩, ⟨h.nw.ring, h.nw.leases, h.nw.told, h.nw.nd⟩⟩, K.mid (A := A') (B := [_]) hK⟩
 ·have hbf : b = false := by simpa using hbt
  subst hbf
  have he := itf_ins (c := c) (it_pw hit) hb
  have hil := hb.1
  refine rg <| ?_
  refine vl mv <| vl mv <| vl (nc rfl) <| vl (fa underlying31 rfl Ty.z27 rfl) <| vl (ldO hK Ty.o27 0 rfl rfl rfl) <| vl (mI rfl) <| vl (mI rfl) <| vl (mI rfl) <| vl (bd [(0, _), (1, _)] Ty.p104 Ty.i104 rfl ⟨⟨rfl, rfl⟩, ⟨rfl, rfl⟩, trivial⟩ rfl) <| ?_
  refine bsS1 hK underlying27 Ty.i104 rfl rfl rfl rfl rfl rfl ?_
  intro b32 w hK
  replace hK : K e w G ((b32, row (ic (k, c)) 104) :: (bk, row (m0 :: m1 :: wc W) 69) :: (AI ++ (AS ++ L))) := hK
  replace hK : K _ _ _ ((b32, row (ic (k, c)) 104) :: (AI ++ ((bk, row (m0 :: m1 :: wc W) 69) :: (AS ++ L)))) := hK.reo
  refine cl call161 rfl (insertI_c (x := (k, c)) hK h.items rfl (fun _ _ => rfl) hil om) ?_
  rintro v33 w ⟨A2, ho2, hK⟩
  have ho' : OS 2 104 v33 (itf k c false wd.items).length ((itf k c false wd.items).flatMap ic) A2 := by
   rw [he]
   have : (wd.items.take i ++ (k, c) :: wd.items.drop i).length = wd.items.length + 1 := by simp only [List.length_append, List.length_cons, List.length_take, List.length_drop]; omega
   rw [this]; exact ho2
  replace hK := K.mid (A := A2) (B := [_]) hK
  refine vl (nc rfl) <| vl (fa underlying31 rfl Ty.z27 rfl) <| ?_
  refine so hK Ty.i27 rfl 0 rfl rfl rfl ho2.one rfl ?_
  intro w hK
  refine nl <| p0n <| ?_
  exact ⟨rfl, ⟨W.now, W.r, W.l, v33, W.next, W.t, W.s⟩, A2, ⟨⟨h.now, h.ring, h.rg, h.leases, .inl ho', h.next, h.told, h.since⟩, ⟨h.nw.ring, h.nw.leases, h.nw.told, h.nw.nd⟩⟩, hK⟩
set_option maxHeartbeats 1000000 in
theorem eraseF_c (h : WdP G0 G 98 101 lc 104 3 W wd rs AI AS) (hK : K e w G ((bk, row (m0 :: m1 :: wc W) 69) :: (AI ++ (AS ++ L)))) (hit : ItOk wd.items) (hl : wd.items.length ≤ 100000) (hsl : wd.since.length ≤ 100000) (hk : Pt k) :
  Ret prog 124 #[.pointer (some ⟨bk, 2, none⟩), .int .i64 k] w (fun r w' => r = .tuple #[] ∧ ∃ W' AI' AS', WdP G0 G 98 101 lc 104 3 W' { wd with items := itf k c true wd.items, since := wd.since.filter (fun x => decide (x ≠ k)) } rs AI' AS' ∧ K e w' G ((bk, row (m0 :: m1 :: wc W') 69) :: (AI' ++ (AS' ++ L)))) := by
 refine enter0 (args := [.pointer (some ⟨bk, 2, none⟩), .int .i64 k]) func124 rfl rfl rfl rfl ?_
 refine sq <| rg <| ?_
 refine bx hK rfl rfl ?_
 intro b3 w hK
 refine nl <| thn <| sq <| sq <| rg <| vl mv <| vl (ldO hK Ty.o3 0 rfl rfl rfl) <| ?_
 have hK1 : K e w G ((bk, row (m0 :: m1 :: wc W) 69) :: (AI ++ (AS ++ ((b3, row [.int .i64 k] 3) :: L)))) := by
  have hK0 : K e w G ((b3, row [.int .i64 k] 3) :: (bk, row (m0 :: m1 :: wc W) 69) :: (AI ++ (AS ++ L))) := hK
  exact hK0.reo
 have hall := h.all hK1
 clear hK hK1
 obtain ⟨Gf, hGf, hWf, hcf, hK, hback⟩ := hall
 refine cl call160 rfl (findItem_c hK hcf hWf hit om hk) ?_
 rintro _ w ⟨⟨i, b, rfl, hb⟩, hK⟩
 replace hK := hback _ _ hK
 clear hback hcf hWf hGf
 refine vl mv <| vl (ext rfl rfl) <| vl (ext rfl rfl) <| vl (aI rfl) <| vl (aB rfl) <| nl <| thn <| sq <| rg <| vl (mB rfl) <| nl <| thn <| ?_
 refine ct (σ := Value × Own) (fun s => [(0, .pointer (some ⟨bk, 2, none⟩)), (3, .pointer (some ⟨b3, 0, none⟩))]) (fun s w => OSx 2 104 s.1 (itf k c true wd.items).length ((itf k c true wd.items).flatMap ic) s.2 ∧ K e w G ((bk, row (m0 :: m1 :: wc ⟨W.now, W.r, W.l, s.1, W.next, W.t, W.s⟩) 69) :: (s.2 ++ (AS ++ ((b3, row [.int .i64 k] 3) :: L))))) ?_ ?_
 ·refine cdB rfl (fun hbt => ?_) fun hbt => ?_
  ·subst hbt
   obtain ⟨hi, he⟩ := itf_del (c := c) (it_pw hit) hb
   refine rg <| ?_
   refine vl mv <| vl mv <| vl (nc rfl) <| vl (fa underlying31 rfl Ty.z27 rfl) <| vl (ldO hK Ty.o27 0 rfl rfl rfl) <| vl (mI rfl) <| vl (mI rfl) <| vl (ad rfl rfl) <| ?_
   replace hK := K.mid (A := [_]) (B := AI) hK
   refine cl call162 rfl (deleteI_c hK h.items hi om) ?_
   rintro v21 w ⟨A2, ho2, hK⟩
   replace hK := K.mid (A := A2) (B := [_]) hK
   rw [← he] at ho2
   refine vl (nc rfl) <| vl (fa underlying31 rfl Ty.z27 rfl) <| ?_
   refine so hK Ty.i27 rfl 0 rfl rfl rfl ho2.one rfl ?_
   intro w hK
   refine nl <| ctn <| ?_
   exact ⟨(v21, A2), ⟨rfl, rfl, trivial⟩, .inl ho2, hK⟩
  ·have hbf : b = false := by simpa using hbt
   subst hbf
   have he := itf_same (c := c) (it_pw hit) hb
   refine sk <| ctn <| ?_
   exact ⟨(W.i, AI), ⟨rfl, rfl, trivial⟩, by simp only; rw [he]; exact h.items, hK⟩
 ·rintro ⟨vi, A2⟩ g w ⟨hoi, hK⟩
  simp only at hoi hK
  have hos : OSx 1 3 W.s wd.since.length (ints wd.since) AS := by rw [ints_flat]; exact h.since
  refine thn <| rg <| ?_
  refine vl mv <| vl mv <| vl (nc rfl) <| vl (fa underlying31 rfl Ty.z22 rfl) <| vl (ldO hK Ty.o22 0 rfl rfl rfl) <| vl (mkf rfl) <| ?_
  replace hK : K e w G (AS ++ ((bk, row (m0 :: m1 :: wc ⟨W.now, W.r, W.l, vi, W.next, W.t, W.s⟩) 69) :: (A2 ++ ((b3, row [.int .i64 k] 3) :: L)))) := hK.reo
  refine cl call163 rfl (deleteFunc_c (F := 164) (cap := [.pointer (some ⟨b3, 0, none⟩)]) (q := fun x => decide (x = k)) call164 hK hos om (fun G x w hK => erase1_c (t := 3) hK (List.mem_cons_of_mem _ (List.mem_append_right _ (List.mem_cons_self ..))))) ?_
  rintro v30 w ⟨A3, ho3, hK⟩
  rw [flt_ne, ints_flat] at ho3
  replace hK : K e w G ((bk, row (m0 :: m1 :: wc ⟨W.now, W.r, W.l, vi, W.next, W.t, W.s⟩) 69) :: (A3 ++ (A2 ++ ((b3, row [.int .i64 k] 3) :: L)))) := K.mid (A := A3) (B := [_]) hK
  refine vl (nc rfl) <| vl (fa underlying31 rfl Ty.z22 rfl) <| ?_
  refine so hK Ty.i22 rfl 0 rfl rfl rfl ho3.one rfl ?_
  intro w hK
  refine nl <| p0n <| ?_
  replace hK : K e w G ((bk, row (m0 :: m1 :: wc ⟨W.now, W.r, W.l, vi, W.next, W.t, v30⟩) 69) :: (A3 ++ (A2 ++ ((b3, row [.int .i64 k] 3) :: L)))) := hK
  have hK2 : K e w G ((b3, row [.int .i64 k] 3) :: (bk, row (m0 :: m1 :: wc ⟨W.now, W.r, W.l, vi, W.next, W.t, v30⟩) 69) :: (A2 ++ (A3 ++ L))) := hK.reo
  exact ⟨rfl, ⟨W.now, W.r, W.l, vi, W.next, W.t, v30⟩, A2, A3, ⟨⟨h.now, h.ring, h.rg, h.leases, hoi, h.next, h.told, ho3⟩, ⟨h.nw.ring, h.nw.leases, h.nw.told, h.nw.nd⟩⟩, hK2.drop1⟩
end
end Go.Proofs.YtmgggljicpmndaaGreatDoor
