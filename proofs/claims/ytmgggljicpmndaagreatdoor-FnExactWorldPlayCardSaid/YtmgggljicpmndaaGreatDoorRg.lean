/- Contracts of the specification's functions on rings: what is valid and what is safe. Conditions: those that each row states. -/
import Derived.Test.YtmgggljicpmndaaGreatDoorSk
import Derived.Test.YtmgggljicpmndaaGreatDoorRgU
namespace Go.Proofs.YtmgggljicpmndaaGreatDoor
open Go Go.Ro Tryz
section
variable {e w : World} {G : View} {L : Own} {v u : Value} {xs ys ks : List Int} {ls : List Ls} {rs : List Rn} {a b k : Int}
theorem l1Between_c {C : World → Prop} (hK : C w) : Ret prog 143 #[.int .i64 a, .int .i64 k, .int .i64 b] w (fun r w' => r = .bool (btw a k b) ∧ C w') := by
 refine enter1 (args := [.int .i64 a, .int .i64 k, .int .i64 b]) func143 rfl rfl rfl rfl ?_
 refine sq <| rg <| ?_
 refine vl (aB rfl) <| nl <| thn <| sq <| sq <| rg <| vl (mI rfl) <| vl (mI rfl) <| vl (lt rfl rfl) <| nl <| thn <| ?_
 refine cdP rfl (fun h1 => ?_) fun h1 => ?_
 ·refine sq <| rg <| ?_
  refine vl (mI rfl) <| vl (mI rfl) <| vl (lt rfl rfl) <| vl (mB rfl) <| ?_
  refine splP (t := 13) rfl (fun h2 => ?_) fun h2 => ?_
  ·refine gy rfl <| vl (mI rfl) <| gy rfl <| vl (mI rfl) <| gy rfl <| vl (lt rfl rfl) <| vl (pk rfl) <| vl (aB rfl) <| nl <| thn <| rt <| thr <| p1r (a := .bool _) rfl <| ?_
   exact ⟨by simp [btw, h1, h2], hK⟩
  ·refine gn rfl <| gn rfl <| gn rfl <| vl (pk rfl) <| vl (aB rfl) <| nl <| thn <| rt <| thr <| p1r (a := .bool _) rfl <| ?_
   exact ⟨by simp [btw, h1, h2], hK⟩
 ·refine sk <| thn <| sq <| rg <| ?_
  refine vl (mI rfl) <| vl (mI rfl) <| vl (lt rfl rfl) <| vl (mB rfl) <| ?_
  refine splP (t := 21) rfl (fun h2 => ?_) fun h2 => ?_
  ·refine gn rfl <| gn rfl <| gn rfl <| vl (pk rfl) <| vl (aB rfl) <| nl <| thn <| rt <| p1r (a := .bool _) rfl <| ?_
   exact ⟨by simp [btw, h1, h2], hK⟩
  ·refine gy rfl <| vl (mI rfl) <| gy rfl <| vl (mI rfl) <| gy rfl <| vl (lt rfl rfl) <| vl (pk rfl) <| vl (aB rfl) <| nl <| thn <| rt <| p1r (a := .bool _) rfl <| ?_
   exact ⟨by simp [btw, h1, h2], hK⟩
theorem l3Find_c (hK : K e w G L) (hv : RngS G v rs) : Ret prog 98 #[v, .int .i64 k] w (fun r w' => r = .int .i64 (fI (rgl rs) k) ∧ K e w' G L) := by
 have hs := hv.sl
 have hle := hs.le
 refine enter1 (args := [v, .int .i64 k]) func98 rfl rfl rfl rfl ?_
 refine sq <| rg <| ?_
 refine vl (aI rfl) <| nl <| thn <| sq <| sq <| rg <| vl (aI rfl) <| nl <| thn <| bk <| ?_
 refine lp (σ := Nat) (fun i => [(0, v), (1, .int .i64 k), (5, .int .i64 (i : Int))]) (fun i w => i ≤ rs.length ∧ (∀ x ∈ rs.take i, x.1 ≠ k) ∧ K e w G L) (fun i => rs.length - i) 0 ⟨rfl, rfl, rfl, trivial⟩ ⟨Nat.zero_le _, by simp, hK⟩ ?_
 rintro i g w ⟨hi, ha, hK⟩
 refine sq <| sq <| rg <| ?_
 refine vl (mI rfl) <| vl mv <| vl (ln underlying25 rfl hs.len) <| vl (lt rfl rfl) <| nl <| thn <| ?_
 refine cdP rfl (fun hc => ?_) fun hc => ?_
 ·have hi' : i < rs.length := by omega
  refine sk <| thn <| sq <| bk <| sq <| rg <| ?_
  refine vl mv <| vl (mI rfl) <| vl (ixn underlying25 Ty.s98 rfl hs.1 rfl om) <| vl (fe underlying98 rfl Ty.z3 rfl hs.1 om) <| vl (ldV hK Ty.o3 rfl (hs.cell om 0 rfl)) <| vl (mI rfl) <| vl (eq rfl rfl) <| nl <| thn <| ?_
  refine cdP rfl (fun h1 => ?_) fun h1 => ?_
  ·refine sq <| rg <| ?_
   refine vl (mI rfl) <| vl (aI rfl) <| nl <| thn <| rt <| bkr <| thr <| thr <| bkr <| thr <| p1r (a := .int _ _) rfl <| ?_
   refine ⟨?_, hK⟩
   rw [fI_in (h1 ▸ in_ids_rg hi'), fx_rg hi' ha h1]
  ·refine sk <| bkn <| thn <| rg <| ?_
   refine vl (mI rfl) <| vl (ad rfl rfl) <| vl (aI rfl) <| nl <| thn <| ?_
   exact ⟨i + 1, ⟨rfl, rfl, rfl, trivial⟩, ⟨hi', all_snoc hi' ha h1, hK⟩, by omega⟩
 ·have hi' : i = rs.length := by omega
  subst hi'
  refine ex <| the <| the <| bkh <| thn <| sq <| rg <| ?_
  refine vl (aI rfl) <| nl <| thn <| rt <| p1r (a := .int _ _) rfl <| ?_
  rw [List.take_length] at ha
  exact ⟨by rw [fI_no (not_ids_rg ha)], hK⟩
theorem l3Skipped_c (hK : K e w G L) {x : Rn} (hx : IntS G x.2.2.1 x.2.2.2) : Ret prog 215 #[.agg (rc x).toArray, .int .i64 k] w (fun r w' => r = .bool (skn (nd x) k) ∧ K e w' G L) := by
 have hle := hx.le
 refine enter1 (args := [.agg (rc x).toArray, .int .i64 k]) func215 rfl rfl rfl rfl ?_
 refine sq <| rg <| ?_
 refine bx hK rfl rfl ?_
 intro b2 w hK
 refine vl (aB rfl) <| nl <| thn <| sq <| rg <| vl (fa underlying98 rfl Ty.z3 rfl) <| vl (ldO hK Ty.o3 0 rfl rfl rfl) <| vl (aI rfl) <| nl <| thn <| sq <| sq <| rg <| vl (aI rfl) <| nl <| thn <| ?_
 refine bk <| ?_
 refine lp (σ := Nat) (fun i => [(1, .int .i64 k), (2, .pointer (some ⟨b2, 0, none⟩)), (5, .int .i64 ((x.2.2.2.take i).getLastD x.1)), (6, .int .i64 (i : Int))]) (fun i w => i ≤ x.2.2.2.length ∧ skips x.1 (x.2.2.2.take i) k = false ∧ K e w G ((b2, row (rc x) 98) :: L)) (fun i => x.2.2.2.length - i) 0 ⟨rfl, rfl, rfl, rfl, trivial⟩ ⟨Nat.zero_le _, rfl, hK⟩ ?_
 rintro i g w ⟨hi, ha, hK⟩
 refine sq <| sq <| rg <| ?_
 refine vl (mI rfl) <| vl (fa underlying98 rfl Ty.z22 rfl) <| vl (ldO hK Ty.o22 0 rfl rfl rfl) <| vl (ln underlying22 rfl hx.len) <| vl (lt rfl rfl) <| nl <| thn <| ?_
 refine cdP rfl (fun hc => ?_) fun hc => ?_
 ·have hi' : i < x.2.2.2.length := by omega
  have hsn : skips x.1 (x.2.2.2.take (i + 1)) k = btw ((x.2.2.2.take i).getLastD x.1) k x.2.2.2[i] := by
   rw [List.take_succ_eq_append_getElem hi', skips_snoc, ha]; rfl
  refine sk <| thn <| sq <| bk <| sq <| sq <| rg <| ?_
  refine vl (mI rfl) <| vl (mI rfl) <| vl (fa underlying98 rfl Ty.z22 rfl) <| vl (ldO hK Ty.o22 0 rfl rfl rfl) <| vl (mI rfl) <| vl (ixn1 underlying22 Ty.s3 rfl hx.1 rfl om) <| vl (ldV hK Ty.o3 rfl (hx.at om)) <| ?_
  refine cl call143 rfl (l1Between_c (C := fun w => K e w G ((b2, row (rc x) 98) :: L)) hK) ?_
  rintro _ w ⟨rfl, hK⟩
  refine nl <| thn <| ?_
  refine cdB rfl (fun h1 => ?_) fun h1 => ?_
  ·refine sq <| rg <| ?_
   refine vl (aB rfl) <| nl <| thn <| rt <| thr <| bkr <| thr <| thr <| bkr <| thr <| p1r (a := .bool _) rfl <| ?_
   refine ⟨?_, hK.drop1⟩
   have h2 : skn (nd x) k = true := by
    show skips x.1 x.2.2.2 k = true
    rw [← List.take_append_drop (i + 1) x.2.2.2, skips_app, hsn, h1]; rfl
   rw [h2]
  ·refine sk <| thn <| rg <| ?_
   refine vl (fa underlying98 rfl Ty.z22 rfl) <| vl (ldO hK Ty.o22 0 rfl rfl rfl) <| vl (mI rfl) <| vl (ixn1 underlying22 Ty.s3 rfl hx.1 rfl om) <| vl (ldV hK Ty.o3 rfl (hx.at om)) <| vl (aI rfl) <| nl <| bkn <| thn <| rg <| vl (mI rfl) <| vl (ad rfl rfl) <| vl (aI rfl) <| nl <| thn <| ?_
   exact ⟨i + 1, ⟨rfl, rfl, congrArg (Value.int .i64) (last_take hi' _), rfl, trivial⟩, ⟨hi', by rw [hsn, h1], hK⟩, by omega⟩
 ·have hi' : i = x.2.2.2.length := by omega
  subst hi'
  refine ex <| the <| the <| bkh <| thn <| sq <| rg <| ?_
  refine vl (aB rfl) <| nl <| thn <| rt <| p1r (a := .bool _) rfl <| ?_
  rw [List.take_length] at ha
  exact ⟨by show _ = Value.bool (skips x.1 x.2.2.2 k); rw [ha], hK.drop1⟩
theorem specRingValid_c (hK : K e w G L) (hv : RngS G v rs) : Ret prog 128 #[v] w (fun r w' => r = .bool (dec (RgOk (rgl rs))) ∧ K e w' G L) := by
 have hs := hv.sl
 have hle := hs.le
 refine enter1 (args := [v]) func128 rfl rfl rfl rfl ?_
 refine sq <| rg <| ?_
 refine vl (aB rfl) <| nl <| thn <| sq <| sq <| rg <| vl (aI rfl) <| nl <| thn <| bk <| ?_
 refine lp (σ := Nat) (fun i => [(0, v), (3, .int .i64 (i : Int))]) (fun i w => i ≤ rs.length ∧ RgTo rs i ∧ K e w G L) (fun i => rs.length - i) 0 ⟨rfl, rfl, trivial⟩ ⟨Nat.zero_le _, RgTo.zero, hK⟩ ?_
 rintro i g w ⟨hi, ha, hK⟩
 refine sq <| sq <| rg <| ?_
 refine vl (mI rfl) <| vl mv <| vl (ln underlying25 rfl hs.len) <| vl (lt rfl rfl) <| nl <| thn <| ?_
 refine cdP rfl (fun hc => ?_) fun hc => ?_
 ·have hi' : i < rs.length := by omega
  have hx := hv.at hi'
  have hxl := hx.le
  refine sk <| thn <| sq <| bk <| sq <| rg <| ?_
  refine vl mv <| vl (mI rfl) <| vl (ixn underlying25 Ty.s98 rfl hs.1 rfl om) <| vl (lsF hK Ty.a98 Ty.s98 rfl hs om) <| ?_
  refine al hK Ty.i98 rfl ?_
  intro b4 w hK
  refine soS hK Ty.i98 0 rfl rfl rfl rfl (allc rfl (allc rfl (allc hx.1.one rfl))) rfl ?_
  intro w hK
  refine nl <| thn <| sq <| sq <| ?_
  refine ct (σ := Bool) (fun b => [(0, v), (3, .int .i64 (i : Int)), (4, .pointer (some ⟨b4, 0, none⟩)), (51, .bool b)]) (fun b w => (b = false → NdG rs i rs[i]) ∧ (b = true → ¬ NdG rs i rs[i]) ∧ K e w G ((b4, row (rc rs[i]) 98) :: L)) ?_ ?_
  ·skip
   refine rgq (fun w => K _ w _ _) Ty.mixed kr (hK.drawn _) ?_
   refine qv (fun w hK => (fa underlying98 rfl Ty.z3 rfl)) <| qldO Ty.o3 0 rfl rfl rfl <| ?_
   refine qcl call99 rfl (fun w hK => l1Point_c (C := fun w => K _ w _ _) hK) ?_
   refine qv (fun w hK => (nt rfl)) <| qv (fun w hK => (mB rfl)) <| ?_
   refine qsplP (t := 20) rfl (fun h1 => ?_) fun h1 => ?_
   ·refine qgn rfl <| qgn rfl <| qgn rfl <| qgu rfl <| qgu rfl <| qgu rfl <| qgu rfl <| qgu rfl <| qgu rfl <| qgu rfl <| qgu rfl <| qgu rfl <| qgn rfl <| qv (fun w hK => (pk rfl)) <| qv (fun w hK => (mB rfl)) <| qgn rfl <| qgn rfl <| qgn rfl <| qgn rfl <| qgu rfl <| qgu rfl <| qgu rfl <| qgu rfl <| qgn rfl <| qv (fun w hK => (pk rfl)) <| qv (fun w hK => (mB rfl)) <| qgn rfl <| qgn rfl <| qgn rfl <| qgn rfl <| qv (fun w hK => (pk rfl)) <| qn <| ?_
    intro w hK
    refine ctn <| ?_
    exact ⟨true, ⟨rfl, rfl, rfl, rfl, trivial⟩, by simp, fun _ g => h1 g.1, hK⟩
   ·have h1' : Pt rs[i].1 := Decidable.not_not.1 h1
    refine qgy rfl <| qv (fun w hK => (mI rfl)) <| qgy rfl <| qv (fun w hK => (gt rfl rfl)) <| qgy rfl <| qv (fun w hK => (mB rfl)) <| ?_
    refine qsplP (t := 23) rfl (fun h4 => ?_) fun h4 => ?_
    ·refine qgy rfl <| qv (fun w hK => mv) <| qgy rfl <| qv (fun w hK => (mI rfl)) <| qgy rfl <| qv (fun w hK => (sb rfl rfl)) <| qgy rfl <| qv (fun w hK => (ixm (m := i - 1) underlying25 Ty.s98 rfl hs.1 rfl om om)) <| qgy rfl <| qv (fun w hK => (fe underlying98 rfl Ty.z3 rfl hs.1 om)) <| qgy rfl <| qldV Ty.o3 rfl (hs.cell om 0 rfl) <| qgy rfl <| qv (fun w hK => (fa underlying98 rfl Ty.z3 rfl)) <| qgy rfl <| qldO Ty.o3 0 rfl rfl rfl <| qgy rfl <| qv (fun w hK => (ge rfl rfl)) <| qgy rfl <| qv (fun w hK => (pk rfl)) <| qv (fun w hK => (pk rfl)) <| qv (fun w hK => (mB rfl)) <| ?_
     refine qsplP (t := 35) rfl (fun h5 => ?_) fun h5 => ?_
     ·refine qgn rfl <| qgn rfl <| qgn rfl <| qgn rfl <| qgu rfl <| qgu rfl <| qgu rfl <| qgu rfl <| qgn rfl <| qv (fun w hK => (pk rfl)) <| qv (fun w hK => (mB rfl)) <| qgn rfl <| qgn rfl <| qgn rfl <| qgn rfl <| qv (fun w hK => (pk rfl)) <| qn <| ?_
      intro w hK
      refine ctn <| ?_
      exact ⟨true, ⟨rfl, rfl, rfl, rfl, trivial⟩, by simp, fun _ g => by have := g.2.1 (by omega) (by omega); omega, hK⟩
     ·refine qgy rfl <| qv (fun w hK => (fa underlying98 rfl Ty.z3 rfl)) <| qgy rfl <| qldO Ty.o3 0 rfl rfl rfl <| qgy rfl <| qv (fun w hK => (ne rfl rfl)) <| qgy rfl <| qv (fun w hK => (mB rfl)) <| ?_
      refine qsplP (t := 39) rfl (fun h6 => ?_) fun h6 => ?_
      ·refine qgy rfl <| qv (fun w hK => (fa underlying98 rfl Ty.z3 rfl)) <| qgy rfl <| qldO Ty.o3 0 rfl rfl rfl <| qgy rfl <| ?_
       refine qcl call99 rfl (fun w hK => l1Point_c (C := fun w => K _ w _ _) hK) ?_
       refine qgy rfl <| qv (fun w hK => (nt rfl)) <| qgy rfl <| qv (fun w hK => (pk rfl)) <| qv (fun w hK => (pk rfl)) <| qv (fun w hK => (mB rfl)) <| ?_
       refine qsplP (t := 46) rfl (fun h7 => ?_) fun h7 => ?_
       ·refine qgn rfl <| qgn rfl <| qgn rfl <| qgn rfl <| qv (fun w hK => (pk rfl)) <| qn <| ?_
        intro w hK
        refine ctn <| ?_
        exact ⟨true, ⟨rfl, rfl, rfl, rfl, trivial⟩, by simp, fun _ g => by rcases g.2.2.1 with g | g; exact h6 g; exact h7 g, hK⟩
       ·refine qgy rfl <| qv (fun w hK => (fa underlying98 rfl Ty.z22 rfl)) <| qgy rfl <| qldO Ty.o22 0 rfl rfl rfl <| qgy rfl <| qv (fun w hK => (ln underlying22 rfl hx.len)) <| qgy rfl <| qv (fun w hK => (ne rfl rfl)) <| qv (fun w hK => (pk rfl)) <| qn <| ?_
        intro w hK
        refine ctn <| ?_
        exact ⟨_, ⟨rfl, rfl, rfl, rfl, trivial⟩, fun hb => ⟨h1', fun _ _ => by omega, .inr (Decidable.not_not.1 h7), by have := of_decide_eq_false hb; omega⟩, fun hb g => by have := of_decide_eq_true hb; have := g.2.2.2; omega, hK⟩
      ·refine qgn rfl <| qgn rfl <| qgn rfl <| qgn rfl <| qgy rfl <| qv (fun w hK => (pk rfl)) <| qv (fun w hK => (pk rfl)) <| qv (fun w hK => (mB rfl)) <| qgy rfl <| qv (fun w hK => (fa underlying98 rfl Ty.z22 rfl)) <| qgy rfl <| qldO Ty.o22 0 rfl rfl rfl <| qgy rfl <| qv (fun w hK => (ln underlying22 rfl hx.len)) <| qgy rfl <| qv (fun w hK => (ne rfl rfl)) <| qv (fun w hK => (pk rfl)) <| qn <| ?_
       intro w hK
       refine ctn <| ?_
       exact ⟨_, ⟨rfl, rfl, rfl, rfl, trivial⟩, fun hb => ⟨h1', fun _ _ => by omega, .inl (Decidable.not_not.1 h6), by have := of_decide_eq_false hb; omega⟩, fun hb g => by have := of_decide_eq_true hb; have := g.2.2.2; omega, hK⟩
    ·refine qgn rfl <| qgn rfl <| qgn rfl <| qgn rfl <| qgn rfl <| qgn rfl <| qgn rfl <| qgn rfl <| qgn rfl <| qgy rfl <| qv (fun w hK => (pk rfl)) <| qv (fun w hK => (pk rfl)) <| qv (fun w hK => (mB rfl)) <| qgy rfl <| qv (fun w hK => (fa underlying98 rfl Ty.z3 rfl)) <| qgy rfl <| qldO Ty.o3 0 rfl rfl rfl <| qgy rfl <| qv (fun w hK => (ne rfl rfl)) <| qgy rfl <| qv (fun w hK => (mB rfl)) <| ?_
     refine qsplP (t := 39) rfl (fun h6 => ?_) fun h6 => ?_
     ·refine qgy rfl <| qv (fun w hK => (fa underlying98 rfl Ty.z3 rfl)) <| qgy rfl <| qldO Ty.o3 0 rfl rfl rfl <| qgy rfl <| ?_
      refine qcl call99 rfl (fun w hK => l1Point_c (C := fun w => K _ w _ _) hK) ?_
      refine qgy rfl <| qv (fun w hK => (nt rfl)) <| qgy rfl <| qv (fun w hK => (pk rfl)) <| qv (fun w hK => (pk rfl)) <| qv (fun w hK => (mB rfl)) <| ?_
      refine qsplP (t := 46) rfl (fun h7 => ?_) fun h7 => ?_
      ·refine qgn rfl <| qgn rfl <| qgn rfl <| qgn rfl <| qv (fun w hK => (pk rfl)) <| qn <| ?_
       intro w hK
       refine ctn <| ?_
       exact ⟨true, ⟨rfl, rfl, rfl, rfl, trivial⟩, by simp, fun _ g => by rcases g.2.2.1 with g | g; exact h6 g; exact h7 g, hK⟩
      ·refine qgy rfl <| qv (fun w hK => (fa underlying98 rfl Ty.z22 rfl)) <| qgy rfl <| qldO Ty.o22 0 rfl rfl rfl <| qgy rfl <| qv (fun w hK => (ln underlying22 rfl hx.len)) <| qgy rfl <| qv (fun w hK => (ne rfl rfl)) <| qv (fun w hK => (pk rfl)) <| qn <| ?_
       intro w hK
       refine ctn <| ?_
       exact ⟨_, ⟨rfl, rfl, rfl, rfl, trivial⟩, fun hb => ⟨h1', fun _ _ => by omega, .inr (Decidable.not_not.1 h7), by have := of_decide_eq_false hb; omega⟩, fun hb g => by have := of_decide_eq_true hb; have := g.2.2.2; omega, hK⟩
     ·refine qgn rfl <| qgn rfl <| qgn rfl <| qgn rfl <| qgy rfl <| qv (fun w hK => (pk rfl)) <| qv (fun w hK => (pk rfl)) <| qv (fun w hK => (mB rfl)) <| qgy rfl <| qv (fun w hK => (fa underlying98 rfl Ty.z22 rfl)) <| qgy rfl <| qldO Ty.o22 0 rfl rfl rfl <| qgy rfl <| qv (fun w hK => (ln underlying22 rfl hx.len)) <| qgy rfl <| qv (fun w hK => (ne rfl rfl)) <| qv (fun w hK => (pk rfl)) <| qn <| ?_
      intro w hK
      refine ctn <| ?_
      exact ⟨_, ⟨rfl, rfl, rfl, rfl, trivial⟩, fun hb => ⟨h1', fun _ _ => by omega, .inl (Decidable.not_not.1 h6), by have := of_decide_eq_false hb; omega⟩, fun hb g => by have := of_decide_eq_true hb; have := g.2.2.2; omega, hK⟩
  ·rintro b g w ⟨hb1, hb2, hK⟩
   refine thn <| ?_
   refine cdB rfl (fun hb => ?_) fun hb => ?_
   ·refine sq <| rg <| ?_
    refine vl (aB rfl) <| nl <| thn <| rt <| thr <| bkr <| thr <| thr <| bkr <| thr <| p1r (a := .bool _) rfl <| ?_
    refine ⟨?_, hK.drop1⟩
    rw [dec_f]; intro h; exact hb2 hb (NdG.of h hi')
   ·have hg := hb1 hb
    have hlen := hg.2.2.2
    refine sk <| thn <| sq <| rg <| ?_
    refine vl (aI rfl) <| nl <| thn <| bk <| ?_
    refine lp (σ := Nat) (fun j => [(0, v), (3, .int .i64 (i : Int)), (4, .pointer (some ⟨b4, 0, none⟩)), (5, .int .i64 (j : Int))]) (fun j w => j ≤ 2 ∧ (∀ k ∈ rs[i].2.2.2.take j, Pt k) ∧ K e w G ((b4, row (rc rs[i]) 98) :: L)) (fun j => 2 - j) 0 ⟨rfl, rfl, rfl, rfl, trivial⟩ ⟨Nat.zero_le _, by simp, hK⟩ ?_
    rintro j g w ⟨hj, hp, hK⟩
    refine sq <| sq <| rg <| ?_
    refine vl (mI rfl) <| vl (fa underlying98 rfl Ty.z22 rfl) <| vl (ldO hK Ty.o22 0 rfl rfl rfl) <| vl (ln underlying22 rfl hx.len) <| vl (lt rfl rfl) <| nl <| thn <| ?_
    refine cdP rfl (fun hc2 => ?_) fun hc2 => ?_
    ·have hj' : j < rs[i].2.2.2.length := by omega
     refine sk <| thn <| sq <| bk <| sq <| rg <| ?_
     refine vl (fa underlying98 rfl Ty.z22 rfl) <| vl (ldO hK Ty.o22 0 rfl rfl rfl) <| vl (mI rfl) <| vl (ixn1 underlying22 Ty.s3 rfl hx.1 rfl om) <| vl (ldV hK Ty.o3 rfl (hx.at om)) <| ?_
     refine cl call99 rfl (l1Point_c (C := fun w => K _ w _ _) hK) ?_
     rintro _ w ⟨rfl, hK⟩
     refine vl (nt rfl) <| nl <| thn <| ?_
     refine cdP rfl (fun h9 => ?_) fun h9 => ?_
     ·refine sq <| rg <| ?_
      refine vl (aB rfl) <| nl <| thn <| rt <| bkr <| thr <| thr <| bkr <| bkr <| thr <| thr <| bkr <| thr <| p1r (a := .bool _) rfl <| ?_
      refine ⟨?_, hK.drop1⟩
      rw [dec_f]; intro h; exact h9 ((rgOk_at h hi').2.2.2 _ (List.getElem_mem hj'))
     ·refine sk <| bkn <| thn <| rg <| ?_
      refine vl (mI rfl) <| vl (ad rfl rfl) <| vl (aI rfl) <| nl <| thn <| ?_
      exact ⟨j + 1, ⟨rfl, rfl, rfl, rfl, trivial⟩, ⟨by omega, all_snoc hj' hp (Decidable.not_not.1 h9), hK⟩, by omega⟩
    ·have hj' : j = rs[i].2.2.2.length := by omega
     refine ex <| the <| the <| bkh <| bkn <| thn <| rg <| ?_
     refine vl (mI rfl) <| vl (ad rfl rfl) <| vl (aI rfl) <| nl <| thn <| ?_
     rw [hj', List.take_length] at hp
     exact ⟨i + 1, ⟨rfl, rfl, trivial⟩, ⟨hi', ha.snoc hi' ⟨hg.1, hg.2.2.1, hlen, hp⟩ (fun h0 => hg.2.1 h0 (by omega)), hK.drop1⟩, by omega⟩
 ·have hi' : i = rs.length := by omega
  subst hi'
  refine ex <| the <| the <| bkh <| thn <| sq <| rg <| ?_
  refine vl mv <| vl (ln underlying25 rfl hs.len) <| vl (le rfl rfl) <| vl (aB rfl) <| nl <| thn <| rt <| p1r (a := .bool _) rfl <| ?_
  refine ⟨?_, hK⟩
  rw [← dec_dec]
  congr 1
  exact dec_congr ⟨fun h => rgOk_iff.2 ⟨by omega, ha⟩, fun h => by have := (rgOk_iff.1 h).1; omega⟩
theorem l3Principals_c (hK : K e w G L) (hv : RngS G v rs) (hl : rs.length ≤ 100) : Ret prog 175 #[v] w (fun r w' => ∃ A, OS 1 3 r (prin (rgl rs)).length (ints (prin (rgl rs))) A ∧ K e w' G (A ++ L)) := by
 have hs := hv.sl
 refine enter1 (args := [v]) func175 rfl rfl rfl rfl ?_
 refine sq <| rg <| ?_
 refine vl asg <| nl <| thn <| sq <| rg <| ?_
 refine bs0 hK underlying22 Ty.i3 ?_
 intro b7 w hK
 refine vl asg <| nl <| thn <| sq <| sq <| rg <| vl (aI rfl) <| nl <| thn <| bk <| ?_
 replace hK := K.mid (A := [(b7, _)]) (B := []) hK
 refine lp (σ := Nat × Value × Own) (fun s => [(0, v), (3, s.2.1), (4, .int .i64 (s.1 : Int))]) (fun s w => s.1 ≤ rs.length ∧ OS 1 3 s.2.1 (prTo rs s.1).length (ints (prTo rs s.1)) s.2.2 ∧ K e w G (s.2.2 ++ L)) (fun s => rs.length - s.1) (0, .slice (some ⟨b7, 0, none⟩) 0 0, [(b7, row [] 3)]) ⟨rfl, rfl, rfl, trivial⟩ ⟨Nat.zero_le _, by rw [prTo_zero]; exact OS.none, hK⟩ ?_
 rintro ⟨i, u, A⟩ g w ⟨hi, ho, hK⟩
 simp only at hi ho hK
 refine sq <| sq <| rg <| ?_
 refine vl (mI rfl) <| vl mv <| vl (ln underlying25 rfl hs.len) <| vl (lt rfl rfl) <| nl <| thn <| ?_
 refine cdP rfl (fun hc => ?_) fun hc => ?_
 ·have hi' : i < rs.length := by simp only at hc; omega
  have hpl := prTo_len rs i
  refine sk <| thn <| sq <| bk <| sq <| rg <| ?_
  refine vl (aB rfl) <| nl <| thn <| sq <| sq <| rg <| vl (aI rfl) <| nl <| thn <| bk <| ?_
  refine lp (σ := Nat) (fun j => [(0, v), (3, u), (4, .int .i64 (i : Int)), (5, .bool ((rs.take j).any fun x => skn (nd x) rs[i].1)), (6, .int .i64 (j : Int))]) (fun j w => j ≤ rs.length ∧ K e w G (A ++ L)) (fun j => rs.length - j) 0 ⟨rfl, rfl, rfl, rfl, rfl, trivial⟩ ⟨Nat.zero_le _, hK⟩ ?_
  rintro j g w ⟨hj, hK⟩
  refine sq <| sq <| rg <| ?_
  refine vl (mI rfl) <| vl mv <| vl (ln underlying25 rfl hs.len) <| vl (lt rfl rfl) <| nl <| thn <| ?_
  refine cdP rfl (fun hc2 => ?_) fun hc2 => ?_
  ·have hj' : j < rs.length := by omega
   refine sk <| thn <| sq <| bk <| ?_
   refine rgq (fun w => K _ w _ _) Ty.mixed kr (hK.drawn _) ?_
   refine qv (fun w hK => (mB rfl)) <| qv (fun w hK => (mB rfl)) <| ?_
   refine qspl (t := 21) rfl (fun h1 => ?_) fun h1 => ?_
   ·refine qgn rfl <| qgn rfl <| qgn rfl <| qgn rfl <| qgn rfl <| qgn rfl <| qgn rfl <| qgn rfl <| qgn rfl <| qgn rfl <| qv (fun w hK => (pk rfl)) <| qv (fun w hK => (aB rfl)) <| qn <| ?_
    intro w hK
    refine bkn <| thn <| rg <| vl (mI rfl) <| vl (ad rfl rfl) <| vl (aI rfl) <| nl <| thn <| ?_
    exact ⟨j + 1, ⟨rfl, rfl, rfl, by rw [any_take hj', h1]; rfl, rfl, trivial⟩, ⟨hj', hK⟩, by omega⟩
   ·refine qgy rfl <| qv (fun w hK => mv) <| qgy rfl <| qv (fun w hK => (mI rfl)) <| qgy rfl <| qv (fun w hK => (ixn underlying25 Ty.s98 rfl hs.1 rfl om)) <| qgy rfl <| qv (fun w hK => (lsF hK Ty.a98 Ty.s98 rfl hs om)) <| qgy rfl <| qv (fun w hK => mv) <| qgy rfl <| qv (fun w hK => (mI rfl)) <| qgy rfl <| qv (fun w hK => (ixn underlying25 Ty.s98 rfl hs.1 rfl om)) <| qgy rfl <| qv (fun w hK => (fe underlying98 rfl Ty.z3 rfl hs.1 om)) <| qgy rfl <| qldV Ty.o3 rfl (hs.cell om 0 rfl) <| qgy rfl <| ?_
    refine qcl call215 rfl (fun w hK => l3Skipped_c hK (hv.at hj')) ?_
    refine qv (fun w hK => (pk rfl)) <| qv (fun w hK => (aB rfl)) <| qn <| ?_
    intro w hK
    refine bkn <| thn <| rg <| vl (mI rfl) <| vl (ad rfl rfl) <| vl (aI rfl) <| nl <| thn <| ?_
    exact ⟨j + 1, ⟨rfl, rfl, rfl, by rw [any_take hj', h1]; rfl, rfl, trivial⟩, ⟨hj', hK⟩, by omega⟩
  ·have hj' : j = rs.length := by omega
   subst hj'
   rw [List.take_length]
   refine ex <| the <| the <| bkh <| thn <| sq <| rg <| ?_
   refine vl (mB rfl) <| vl (ntB rfl) <| nl <| thn <| ?_
   refine cdB rfl (fun h2 => ?_) fun h2 => ?_
   ·refine rg <| ?_
    refine vl mv <| vl mv <| vl (mI rfl) <| vl (ixn underlying25 Ty.s98 rfl hs.1 rfl om) <| vl (fe underlying98 rfl Ty.z3 rfl hs.1 om) <| vl (ldV hK Ty.o3 rfl (hs.cell om 0 rfl)) <| ?_
    refine bsN [.tmp 40] hK underlying22 Ty.i3 rfl rfl rfl rfl rfl rfl rfl rfl ?_
    intro b41 w hK
    refine apI1 (k := rs[i].1) hK underlying22 Ty.i3 rfl rfl ho rfl om fun v' A' w ho hK => ?_
    refine vl asg <| nl <| bkn <| thn <| rg <| vl (mI rfl) <| vl (ad rfl rfl) <| vl (aI rfl) <| nl <| thn <| ?_
    exact ⟨(i + 1, v', A'), ⟨rfl, rfl, rfl, trivial⟩, ⟨hi', by rw [prTo_yes hi' (Eq.mp (Bool.not_eq_true' _) h2)]; exact ho, hK⟩, by simp only; omega⟩
   ·refine sk <| bkn <| thn <| rg <| ?_
    refine vl (mI rfl) <| vl (ad rfl rfl) <| vl (aI rfl) <| nl <| thn <| ?_
    exact ⟨(i + 1, u, A), ⟨rfl, rfl, rfl, trivial⟩, ⟨hi', by rw [prTo_no hi' (Eq.mp (Bool.not_eq_false' _) h2)]; exact ho, hK⟩, by simp only; omega⟩
 ·have hi' : i = rs.length := by simp only at hc; omega
  subst hi'
  refine ex <| the <| the <| bkh <| thn <| sq <| rg <| ?_
  refine vl mv <| vl asg <| nl <| thn <| rt <| p1r (a := _) rfl <| ?_
  rw [prTo_all] at ho
  exact ⟨A, ho, hK⟩
theorem l3Safe_c (hK : K e w G L) (hv : RngS G v rs) (hok : ∀ x ∈ rs, x.2.2.2.length = 2) (hl : rs.length ≤ 100) :
  Ret prog 129 #[v] w (fun r w' => r = .bool (dec ((∀ x ∈ rs, ∃ k ∈ x.2.2.2, k ∈ ids (rgl rs)) ∧ 3 ≤ (prin (rgl rs)).length)) ∧ K e w' G L) := by
 have hs := hv.sl
 refine enter1 (args := [v]) func129 rfl rfl rfl rfl ?_
 refine sq <| rg <| ?_
 refine vl (aB rfl) <| nl <| thn <| sq <| sq <| rg <| vl (aI rfl) <| nl <| thn <| bk <| ?_
 refine lp (σ := Nat) (fun i => [(0, v), (3, .int .i64 (i : Int))]) (fun i w => i ≤ rs.length ∧ (∀ x ∈ rs.take i, ∃ k ∈ x.2.2.2, k ∈ ids (rgl rs)) ∧ K e w G L) (fun i => rs.length - i) 0 ⟨rfl, rfl, trivial⟩ ⟨Nat.zero_le _, by simp, hK⟩ ?_
 rintro i g w ⟨hi, ha, hK⟩
 refine sq <| sq <| rg <| ?_
 refine vl (mI rfl) <| vl mv <| vl (ln underlying25 rfl hs.len) <| vl (lt rfl rfl) <| nl <| thn <| ?_
 refine cdP rfl (fun hc => ?_) fun hc => ?_
 ·have hi' : i < rs.length := by omega
  have hx := hv.at hi'
  have hlen := hok _ (List.getElem_mem hi')
  refine sk <| thn <| sq <| bk <| sq <| rg <| ?_
  refine vl (aB rfl) <| nl <| thn <| sq <| sq <| rg <| vl (aI rfl) <| nl <| thn <| bk <| ?_
  refine lp (σ := Nat) (fun j => [(0, v), (3, .int .i64 (i : Int)), (4, .bool ((rs[i].2.2.2.take j).any fun k => decide (k ∈ ids (rgl rs)))), (5, .int .i64 (j : Int))]) (fun j w => j ≤ 2 ∧ K e w G L) (fun j => 2 - j) 0 ⟨rfl, rfl, rfl, rfl, trivial⟩ ⟨Nat.zero_le _, hK⟩ ?_
  rintro j g w ⟨hj, hK⟩
  refine sq <| sq <| rg <| ?_
  refine vl (mI rfl) <| vl (lt rfl rfl) <| nl <| thn <| ?_
  refine cdP rfl (fun hc2 => ?_) fun hc2 => ?_
  ·have hj' : j < rs[i].2.2.2.length := by omega
   refine sk <| thn <| sq <| bk <| rg <| ?_
   refine vl (mB rfl) <| vl (mB rfl) <| ?_
   refine spl (t := 17) rfl (fun h1 => ?_) fun h1 => ?_
   ·refine gn rfl <| gn rfl <| gn rfl <| gn rfl <| gn rfl <| gn rfl <| gn rfl <| gn rfl <| gn rfl <| gn rfl <| gn rfl <| vl (pk rfl) <| vl (aB rfl) <| nl <| bkn <| thn <| ?_
    refine rg <| vl (mI rfl) <| vl (ad rfl rfl) <| vl (aI rfl) <| nl <| thn <| ?_
    exact ⟨j + 1, ⟨rfl, rfl, by rw [any_take hj', h1]; rfl, rfl, trivial⟩, ⟨by omega, hK⟩, by omega⟩
   ·refine gy rfl <| vl mv <| gy rfl <| vl mv <| gy rfl <| vl (mI rfl) <| gy rfl <| vl (ixn underlying25 Ty.s98 rfl hs.1 rfl om) <| gy rfl <| vl (fe underlying98 rfl Ty.z22 rfl hs.1 om) <| gy rfl <| vl (ldV hK Ty.o22 rfl (hs.cell om 2 rfl)) <| gy rfl <| vl (mI rfl) <| gy rfl <| vl (ixn1 underlying22 Ty.s3 rfl hx.1 rfl om) <| gy rfl <| vl (ldV hK Ty.o3 rfl (hx.at om)) <| gy rfl <| ?_
    refine cl call98 rfl (l3Find_c hK hv) ?_
    rintro _ w ⟨rfl, hK⟩
    refine gy rfl <| vl (ge rfl rfl) <| vl (pk rfl) <| vl (aB rfl) <| nl <| bkn <| thn <| rg <| vl (mI rfl) <| vl (ad rfl rfl) <| vl (aI rfl) <| nl <| thn <| ?_
    exact ⟨j + 1, ⟨rfl, rfl, by rw [any_take hj', h1, Bool.false_or]; exact congrArg Value.bool (decide_eq_decide.2 fI_ge), rfl, trivial⟩, ⟨by omega, hK⟩, by omega⟩
  ·have hj' : j = rs[i].2.2.2.length := by omega
   rw [hj', List.take_length]
   refine ex <| the <| the <| bkh <| thn <| sq <| rg <| ?_
   refine vl (mB rfl) <| vl (ntB rfl) <| nl <| thn <| ?_
   refine cdB rfl (fun h2 => ?_) fun h2 => ?_
   ·refine sq <| rg <| ?_
    refine vl (aB rfl) <| nl <| thn <| rt <| bkr <| thr <| thr <| bkr <| thr <| p1r (a := .bool _) rfl <| ?_
    refine ⟨?_, hK⟩
    rw [dec_f]
    rintro ⟨h, _⟩
    obtain ⟨k, hk, hk'⟩ := h _ (List.getElem_mem hi')
    have h3 := Eq.mp (Bool.not_eq_true' _) h2
    rw [List.any_eq_false] at h3
    exact h3 k hk (decide_eq_true hk')
   ·refine sk <| bkn <| thn <| rg <| ?_
    refine vl (mI rfl) <| vl (ad rfl rfl) <| vl (aI rfl) <| nl <| thn <| ?_
    have h3 := Eq.mp (Bool.not_eq_false' _) h2
    obtain ⟨k, hk, hk'⟩ := List.any_eq_true.1 h3
    exact ⟨i + 1, ⟨rfl, rfl, trivial⟩, ⟨hi', all_snoc hi' ha ⟨k, hk, of_decide_eq_true hk'⟩, hK⟩, by omega⟩
 ·have hi' : i = rs.length := by omega
  subst hi'
  rw [List.take_length] at ha
  refine ex <| the <| the <| bkh <| thn <| sq <| rg <| ?_
  refine vl mv <| ?_
  refine cl call175 rfl (l3Principals_c hK hv hl) ?_
  rintro u w ⟨A, ho, hK⟩
  refine vl (ln underlying22 rfl ho.len) <| vl (ge rfl rfl) <| vl (aB rfl) <| nl <| thn <| rt <| p1r (a := .bool _) rfl <| ?_
  refine ⟨?_, (K.dropL hK)⟩
  rw [← dec_dec]
  exact congrArg Value.bool (dec_congr ⟨fun h => ⟨ha, by omega⟩, fun h => by have := h.2; omega⟩)
theorem specRingSafe_c (hK : K e w G L) (hv : RngS G v rs) : Ret prog 72 #[v] w (fun r w' => r = .bool (dec (RgSafe (rgl rs))) ∧ K e w' G L) := by
 refine enter1 (args := [v]) func72 rfl rfl rfl rfl ?_
 refine sq <| rg <| ?_
 refine vl (aB rfl) <| nl <| thn <| sq <| rg <| vl mv <| ?_
 refine cl call128 rfl (specRingValid_c hK hv) ?_
 rintro _ w ⟨rfl, hK⟩
 refine vl (mB rfl) <| ?_
 refine spl (t := 5) rfl (fun h1 => ?_) fun h1 => ?_
 ·have hok := of_dec h1
  refine gy rfl <| vl mv <| gy rfl <| ?_
  refine cl call129 rfl (l3Safe_c hK hv (fun x hx => (hok.2.1 _ (List.mem_map.2 ⟨x, hx, rfl⟩)).2.2.1) (by have := (rgOk_iff.1 hok).1; omega)) ?_
  rintro _ w ⟨rfl, hK⟩
  refine vl (pk rfl) <| vl (aB rfl) <| nl <| thn <| rt <| p1r (a := .bool _) rfl <| ?_
  exact ⟨congrArg Value.bool (dec_congr ⟨fun h => rgSafe_iff.2 ⟨hok, h⟩, fun h => (rgSafe_iff.1 h).2⟩), hK⟩
 ·refine gn rfl <| gn rfl <| vl (pk rfl) <| vl (aB rfl) <| nl <| thn <| rt <| p1r (a := .bool _) rfl <| ?_
  exact ⟨by rw [dec_f fun h => not_dec h1 h.1], hK⟩
end
end Go.Proofs.YtmgggljicpmndaaGreatDoor
