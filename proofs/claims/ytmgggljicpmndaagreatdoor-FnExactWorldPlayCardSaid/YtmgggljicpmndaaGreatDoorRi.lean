/- Contracts of the program's functions on rings: what is valid and what is safe. Conditions: those that each row states. -/
import Derived.Test.YtmgggljicpmndaaGreatDoorRg
namespace Go.Proofs.YtmgggljicpmndaaGreatDoor
open Go Go.Ro Tryz
section
variable {e w : World} {G : View} {L : Own} {v u : Value} {xs ys ks : List Int} {ls : List Ls} {rs : List Rn} {a b k : Int}
theorem nodeAt1_c {bk t : Nat} (hK : K e w G L) (hn : (bk, row [.int .i64 k] t) ∈ L) {x : Rn} (_ : one x.2.2.1 = true) :
  Ret prog 178 #[.agg (rc x).toArray, .pointer (some ⟨bk, 0, none⟩)] w (fun r w' => r = .bool (decide (x.1 = k)) ∧ K e w' G L) := by
 refine enter1 (args := [.agg (rc x).toArray, .pointer (some ⟨bk, 0, none⟩)]) func178 rfl rfl rfl rfl ?_
 refine sq <| rg <| ?_
 refine bx hK rfl rfl ?_
 intro b2 w hK
 refine vl (aB rfl) <| nl <| thn <| sq <| rg <| vl (fa underlying98 rfl Ty.z3 rfl) <| vl (ldO hK Ty.o3 0 rfl rfl rfl) <| vl (ldC Ty.o3 rfl (row_cell (l := [Value.int .i64 k]) (hK.own _ _ (List.mem_cons_of_mem _ hn)))) <| vl (eq rfl rfl) <| vl (aB rfl) <| nl <| thn <| rt <| p1r (a := .bool _) rfl <| ?_
 exact ⟨rfl, hK.drop1⟩
theorem indexFuncN_c {F : FuncId} {cap : List Value} {q : Rn → Bool} (hf : ∀ args w, (callFunc F args).run prog w = .ok (.enter F args) w) (hK : K e w G L) (hv : RngS G v rs)
  (hp : ∀ x ∈ rs, ∀ w, K e w G L → Ret prog F ([Value.agg (rc x).toArray] ++ cap).toArray w (fun r w' => r = .bool (q x) ∧ K e w' G L)) :
  Ret prog 177 #[v, .func (.func F) #[] cap.toArray] w (fun r w' => (∃ i, r = .int .i64 i ∧ IdxOf q rs i) ∧ K e w' G L) := by
 have hs := hv.sl
 have hle := hs.le
 refine enter1 (args := [v, .func (.func F) #[] cap.toArray]) func177 rfl rfl rfl rfl ?_
 refine sq <| rg <| ?_
 refine vl (aI rfl) <| nl <| thn <| sq <| sq <| rg <| vl mv <| vl (ln underlying25 rfl hs.len) <| vl (mI rfl) <| nl <| thn <| bk <| ?_
 refine lp (σ := Nat) (fun i => [(0, v), (1, .func (.func F) #[] cap.toArray), (7, .int .i64 (rs.length : Int)), (8, .int .i64 (i : Int))]) (fun i w => i ≤ rs.length ∧ (∀ x ∈ rs.take i, q x = false) ∧ K e w G L) (fun i => rs.length - i) 0 ⟨rfl, rfl, rfl, rfl, trivial⟩ ⟨Nat.zero_le _, by simp, hK⟩ ?_
 rintro i g w ⟨hi, ha, hK⟩
 refine sq <| rg <| ?_
 refine vl (lt rfl rfl) <| nl <| thn <| sq <| ?_
 refine cdP rfl (fun hc => ?_) fun hc => ?_
 ·have hi' : i < rs.length := by omega
  refine sk <| thn <| sq <| bk <| sq <| rg <| ?_
  refine vl (mI rfl) <| vl (aI rfl) <| nl <| thn <| sq <| rg <| vl mv <| vl mv <| vl (mI rfl) <| vl (ixn underlying25 Ty.s98 rfl hs.1 rfl om) <| vl (lsF hK Ty.a98 Ty.s98 rfl hs om) <| ?_
  refine cf (cap := cap) (hf) rfl rfl (hp rs[i] (List.getElem_mem hi') w hK) ?_
  rintro _ w ⟨rfl, hK⟩
  refine nl <| thn <| ?_
  refine cdB rfl (fun hq => ?_) fun hq => ?_
  ·refine sq <| rg <| ?_
   refine vl (mI rfl) <| vl (aI rfl) <| nl <| thn <| rt <| bkr <| thr <| thr <| bkr <| thr <| p1r (a := .int _ _) rfl <| ?_
   exact ⟨⟨_, rfl, .inr ⟨i, rfl, hi', hq, ha⟩⟩, hK⟩
  ·refine sk <| bkn <| thn <| rg <| ?_
   refine vl (ad rfl rfl) <| vl (mI rfl) <| nl <| thn <| ?_
   exact ⟨i + 1, ⟨rfl, rfl, rfl, rfl, trivial⟩, ⟨hi', all_take hi' ha (by simpa using hq), hK⟩, by omega⟩
 ·have hi' : i = rs.length := by omega
  subst hi'
  refine ex <| the <| the <| bkh <| thn <| sq <| rg <| ?_
  refine vl (aI rfl) <| nl <| thn <| rt <| p1r (a := .int _ _) rfl <| ?_
  rw [List.take_length] at ha
  exact ⟨⟨_, rfl, .inl ⟨rfl, ha⟩⟩, hK⟩
theorem containsFuncN_c {F : FuncId} {cap : List Value} {q : Rn → Bool} (hf : ∀ args w, (callFunc F args).run prog w = .ok (.enter F args) w) (hK : K e w G L) (hv : RngS G v rs)
  (hp : ∀ x ∈ rs, ∀ w, K e w G L → Ret prog F ([Value.agg (rc x).toArray] ++ cap).toArray w (fun r w' => r = .bool (q x) ∧ K e w' G L)) :
  Ret prog 179 #[v, .func (.func F) #[] cap.toArray] w (fun r w' => r = .bool (rs.any q) ∧ K e w' G L) := by
 refine enter1 (args := [v, .func (.func F) #[] cap.toArray]) func179 rfl rfl rfl rfl ?_
 refine sq <| rg <| ?_
 refine vl (aB rfl) <| nl <| thn <| sq <| rg <| vl mv <| vl mv <| ?_
 refine cl call177 rfl (indexFuncN_c hf hK hv hp) ?_
 rintro _ w ⟨⟨i, rfl, hi⟩, hK⟩
 refine vl (ge rfl rfl) <| vl (aB rfl) <| nl <| thn <| rt <| p1r (a := .bool _) rfl <| ?_
 refine ⟨congrArg Value.bool ?_, hK⟩
 rcases hi with ⟨rfl, h⟩ | ⟨j, rfl, hj, h1, _⟩
 ·rw [List.any_eq_false.2 fun x hx => by rw [h x hx]; simp]; rfl
 ·rw [List.any_eq_true.2 ⟨_, List.getElem_mem hj, h1⟩]; exact decide_eq_true (by omega)
theorem nodeAt_c (hK : K e w G L) (hv : RngS G v rs) : Ret prog 134 #[v, .int .i64 k] w (fun r w' => r = .pointer (nAt v (rgl rs) k) ∧ K e w' G L) := by
 have hs := hv.sl
 refine enter1 (args := [v, .int .i64 k]) func134 rfl rfl rfl rfl ?_
 refine sq <| rg <| ?_
 refine bx hK rfl rfl ?_
 intro b3 w hK
 refine vl asg <| nl <| thn <| sq <| rg <| vl mv <| vl (mkf rfl) <| ?_
 refine cl call177 rfl (indexFuncN_c (cap := [.pointer (some ⟨b3, 0, none⟩)]) (q := fun x => decide (x.1 = k)) call178 hK hv (fun x hx w hK => nodeAt1_c hK (List.mem_cons_self ..) (hv.aft x hx).1.one)) ?_
 rintro _ w ⟨⟨i, rfl, hi⟩, hK⟩
 refine vl (aI rfl) <| nl <| thn <| sq <| sq <| rg <| vl (mI rfl) <| vl (lt rfl rfl) <| nl <| thn <| ?_
 refine cdP rfl (fun hh => ?_) fun hh => ?_
 ·refine sq <| rg <| ?_
  refine vl asg <| nl <| thn <| rt <| thr <| p1r (a := _) rfl <| ?_
  rcases hi with ⟨rfl, h⟩ | ⟨j, rfl, hj, h1, h2⟩
  ·refine ⟨?_, hK.drop1⟩
   rw [nAt_no (not_ids_rg fun x hx => by have := h x hx; simpa using this)]; rfl
  ·exfalso; omega
 ·rcases hi with ⟨rfl, h⟩ | ⟨j, rfl, hj, h1, h2⟩
  ·exfalso; omega
  ·have h3 : rs[j].1 = k := by simpa using h1
   refine sk <| thn <| sq <| rg <| ?_
   refine vl mv <| vl (mI rfl) <| vl (ixm (m := j) underlying25 Ty.s98 rfl hs.1 rfl om om) <| vl asg <| nl <| thn <| rt <| p1r (a := _) rfl <| ?_
   refine ⟨?_, hK.drop1⟩
   rw [nAt_in (h3 ▸ in_ids_rg hj), fx_rg hj (fun x hx => by have := h2 x hx; simpa using this) h3]; rfl
theorem up_c {C : World → Prop} (hK : C w) (ha : Pt a) (hb : Pt b) : Ret prog 232 #[.int .i64 a, .int .i64 b] w (fun r w' => r = .int .i64 ((b - a + 64) % 64) ∧ C w') := by
 refine enter1 (args := [.int .i64 a, .int .i64 b]) func232 rfl rfl rfl rfl ?_
 refine sq <| rg <| ?_
 refine vl (aI rfl) <| nl <| thn <| sq <| rg <| vl (mI rfl) <| vl (mI rfl) <| vl (sb rfl rfl) <| vl (ad rfl rfl) <| vl (rm rfl rfl) <| vl (aI rfl) <| nl <| thn <| rt <| p1r (a := .int _ _) rfl <| ?_
 exact ⟨rfl, hK⟩
theorem CircleDistance_c (hK : K e w G L) (ha : Pt a) (hb : Pt b) : Ret prog 227 #[.int .i64 a, .int .i64 b] w (fun r w' => r = .int .i64 ((b - a + 64) % 64) ∧ K e w' G L) := by
 refine enter1 (args := [.int .i64 a, .int .i64 b]) func227 rfl rfl rfl rfl ?_
 refine sq <| rg <| ?_
 refine vl (aI rfl) <| nl <| thn <| sq <| sq <| rg <| vl (mI rfl) <| vl (mI rfl) <| ?_
 refine bsN [.tmp 5, .tmp 6] hK underlying22 Ty.i3 rfl rfl rfl rfl rfl rfl rfl rfl ?_
 intro b7 w hK
 refine cl call136 rfl (positions_o (xs := [a, b]) hK rfl) ?_
 rintro _ w ⟨rfl, hK⟩
 refine vl (ntB rfl) <| nl <| thn <| ?_
 refine cdB rfl (fun h1 => ?_) fun h1 => ?_
 ·exact absurd (fun x hx => by simp at hx; rcases hx with rfl | rfl <;> assumption) (not_dec (Eq.mp (Bool.not_eq_true' _) h1))
 ·have _ := trivial
  refine sk <| thn <| sq <| rg <| ?_
  refine vl (mI rfl) <| vl (mI rfl) <| ?_
  refine cl call232 rfl (up_c (C := fun w => K e w G ((b7, row [.int .i64 a, .int .i64 b] 3) :: L)) hK ha hb) ?_
  rintro _ w ⟨rfl, hK⟩
  refine vl (aI rfl) <| nl <| thn <| rt <| p1r (a := .int _ _) rfl <| ?_
  exact ⟨rfl, hK.drop1⟩
theorem CircleBetween_c (hK : K e w G L) (ha : Pt a) (hk : Pt k) (hb : Pt b) : Ret prog 216 #[.int .i64 a, .int .i64 k, .int .i64 b] w (fun r w' => r = .bool (btw a k b) ∧ K e w' G L) := by
 refine enter1 (args := [.int .i64 a, .int .i64 k, .int .i64 b]) func216 rfl rfl rfl rfl ?_
 refine sq <| rg <| ?_
 refine vl (aB rfl) <| nl <| thn <| sq <| sq <| rg <| vl (mI rfl) <| vl (mI rfl) <| vl (mI rfl) <| ?_
 refine bsN [.tmp 7, .tmp 8, .tmp 9] hK underlying22 Ty.i3 rfl rfl rfl rfl rfl rfl rfl rfl ?_
 intro b10 w hK
 refine cl call136 rfl (positions_o (xs := [a, k, b]) hK rfl) ?_
 rintro _ w ⟨rfl, hK⟩
 refine vl (ntB rfl) <| vl (mB rfl) <| ?_
 refine spl (t := 13) rfl (fun h1 => ?_) fun h1 => ?_
 ·exact absurd (fun x hx => by simp at hx; rcases hx with rfl | rfl | rfl <;> assumption) (not_dec (Eq.mp (Bool.not_eq_true' _) h1))
 ·have _ := trivial
  refine gy rfl <| vl (mI rfl) <| gy rfl <| vl (mI rfl) <| gy rfl <| vl (eq rfl rfl) <| vl (pk rfl) <| vl (mB rfl) <| ?_
  refine splP (t := 18) rfl (fun h2 => ?_) fun h2 => ?_
  ·refine gn rfl <| gn rfl <| gn rfl <| vl (pk rfl) <| nl <| thn <| ?_
   refine cdt rfl ?_
   refine sq <| rg <| ?_
   refine vl (aB rfl) <| nl <| thn <| rt <| thr <| p1r (a := .bool _) rfl <| ?_
   exact ⟨by rw [show btw a k b = false from by unfold btw; split <;> simp <;> omega], hK.drop1⟩
  ·refine gy rfl <| vl (mI rfl) <| gy rfl <| vl (mI rfl) <| gy rfl <| vl (eq rfl rfl) <| vl (pk rfl) <| nl <| thn <| ?_
   refine cdP rfl (fun h3 => ?_) fun h3 => ?_
   ·refine sq <| rg <| ?_
    refine vl (aB rfl) <| nl <| thn <| rt <| thr <| p1r (a := .bool _) rfl <| ?_
    exact ⟨by rw [show btw a k b = false from by unfold btw; split <;> simp <;> omega], hK.drop1⟩
   ·refine sk <| thn <| sq <| rg <| ?_
    refine vl (mI rfl) <| vl (mI rfl) <| vl (eq rfl rfl) <| vl (mB rfl) <| ?_
    refine splP (t := 26) rfl (fun h4 => ?_) fun h4 => ?_
    ·refine gn rfl <| gn rfl <| gn rfl <| gn rfl <| gn rfl <| gn rfl <| gn rfl <| vl (pk rfl) <| vl (aB rfl) <| nl <| thn <| rt <| p1r (a := .bool _) rfl <| ?_
     exact ⟨by rw [show btw a k b = true from by unfold btw; split <;> simp <;> omega], hK.drop1⟩
    ·refine gy rfl <| vl (mI rfl) <| gy rfl <| vl (mI rfl) <| gy rfl <| ?_
     refine cl call227 rfl (CircleDistance_c hK ha hk) ?_
     rintro _ w ⟨rfl, hK⟩
     refine gy rfl <| vl (mI rfl) <| gy rfl <| vl (mI rfl) <| gy rfl <| ?_
     refine cl call227 rfl (CircleDistance_c hK ha hb) ?_
     rintro _ w ⟨rfl, hK⟩
     refine gy rfl <| vl (lt rfl rfl) <| vl (pk rfl) <| vl (aB rfl) <| nl <| thn <| rt <| p1r (a := .bool _) rfl <| ?_
     exact ⟨congrArg Value.bool (by unfold btw; split <;> exact decide_eq_decide.2 (by omega)), hK.drop1⟩
theorem implRingValid_c (hK : K e w G L) (hv : RngS G v rs) : Ret prog 132 #[v] w (fun r w' => r = .bool (dec (RgOk (rgl rs))) ∧ K e w' G L) := by
 have hs := hv.sl
 have hle := hs.le
 refine enter1 (args := [v]) func132 rfl rfl rfl rfl ?_
 refine sq <| rg <| ?_
 refine vl (aB rfl) <| nl <| thn <| sq <| sq <| rg <| vl mv <| vl (ln underlying25 rfl hs.len) <| vl (gt rfl rfl) <| nl <| thn <| ?_
 refine cdP rfl (fun h0 => ?_) fun h0 => ?_
 ·refine sq <| rg <| ?_
  refine vl (aB rfl) <| nl <| thn <| rt <| thr <| p1r (a := .bool _) rfl <| ?_
  exact ⟨by rw [dec_f]; intro h; have := (rgOk_iff.1 h).1; omega, hK⟩
 ·refine sk <| thn <| sq <| sq <| rg <| ?_
  refine vl mv <| vl (ln underlying25 rfl hs.len) <| vl (mI rfl) <| nl <| thn <| bk <| ?_
  refine lp (σ := Nat) (fun i => [(0, v), (8, v), (9, .int .i64 (rs.length : Int)), (10, .int .i64 (i : Int))]) (fun i w => i ≤ rs.length ∧ RgTo rs i ∧ K e w G L) (fun i => rs.length - i) 0 ⟨rfl, rfl, rfl, rfl, trivial⟩ ⟨Nat.zero_le _, RgTo.zero, hK⟩ ?_
  rintro i g w ⟨hi, ha, hK⟩
  refine sq <| rg <| ?_
  refine vl (lt rfl rfl) <| nl <| thn <| sq <| ?_
  refine cdP rfl (fun hc => ?_) fun hc => ?_
  ·have hi' : i < rs.length := by omega
   have hx := hv.at hi'
   have hxl := hx.le
   refine sk <| thn <| sq <| bk <| sq <| rg <| ?_
   refine vl (mI rfl) <| vl (ixn underlying25 Ty.s98 rfl hs.1 rfl om) <| vl (lsF hK Ty.a98 Ty.s98 rfl hs om) <| ?_
   refine al hK Ty.i98 rfl ?_
   intro b4 w hK
   refine vl (aI rfl) <| ?_
   refine soS hK Ty.i98 0 rfl rfl rfl rfl (allc rfl (allc rfl (allc hx.1.one rfl))) rfl ?_
   intro w hK
   refine nl <| thn <| sq <| sq <| ?_
   refine ct (σ := Bool) (fun b => [(0, v), (3, .int .i64 (i : Int)), (4, .pointer (some ⟨b4, 0, none⟩)), (8, v), (9, .int .i64 (rs.length : Int)), (10, .int .i64 (i : Int)), (44, .bool b)]) (fun b w => (b = false → NdH rs i rs[i]) ∧ (b = true → ¬ NdH rs i rs[i]) ∧ K e w G ((b4, row (rc rs[i]) 98) :: L)) ?_ ?_
   ·refine rgq (fun w => K _ w _ _) Ty.mixed kr (hK.drawn _) ?_
    refine qv (fun w hK => (fa underlying98 rfl Ty.z3 rfl)) <| qldO Ty.o3 0 rfl rfl rfl <| ?_
    refine qcl call137 rfl (fun w hK => posok_c (C := fun w => K _ w _ _) hK) ?_
    refine qv (fun w hK => (nt rfl)) <| qv (fun w hK => (mB rfl)) <| ?_
    refine qsplP (t := 19) rfl (fun h1 => ?_) fun h1 => ?_
    ·refine qgn rfl <| qgn rfl <| qgn rfl <| qgu rfl <| qgu rfl <| qgu rfl <| qgu rfl <| qgu rfl <| qgu rfl <| qgu rfl <| qgu rfl <| qgu rfl <| qgn rfl <| qv (fun w hK => (pk rfl)) <| qv (fun w hK => (mB rfl)) <| qgn rfl <| qgn rfl <| qgn rfl <| qgn rfl <| qgu rfl <| qgu rfl <| qgu rfl <| qgu rfl <| qgn rfl <| qv (fun w hK => (pk rfl)) <| qn <| ?_
     intro w hK
     refine ctn <| ?_
     exact ⟨true, ⟨rfl, rfl, rfl, rfl, rfl, rfl, rfl, trivial⟩, by simp, fun _ g => h1 g.1, hK⟩
    ·have h1' : Pt rs[i].1 := Decidable.not_not.1 h1
     refine qgy rfl <| qv (fun w hK => (mI rfl)) <| qgy rfl <| qv (fun w hK => (gt rfl rfl)) <| qgy rfl <| qv (fun w hK => (mB rfl)) <| ?_
     refine qsplP (t := 22) rfl (fun h4 => ?_) fun h4 => ?_
     ·refine qgy rfl <| qv (fun w hK => mv) <| qgy rfl <| qv (fun w hK => (mI rfl)) <| qgy rfl <| qv (fun w hK => (sb rfl rfl)) <| qgy rfl <| qv (fun w hK => (ixm (m := i - 1) underlying25 Ty.s98 rfl hs.1 rfl om om)) <| qgy rfl <| qv (fun w hK => (fe underlying98 rfl Ty.z3 rfl hs.1 om)) <| qgy rfl <| qldV Ty.o3 rfl (hs.cell om 0 rfl) <| qgy rfl <| qv (fun w hK => (fa underlying98 rfl Ty.z3 rfl)) <| qgy rfl <| qldO Ty.o3 0 rfl rfl rfl <| qgy rfl <| qv (fun w hK => (ge rfl rfl)) <| qgy rfl <| qv (fun w hK => (pk rfl)) <| qv (fun w hK => (pk rfl)) <| qv (fun w hK => (mB rfl)) <| ?_
      refine qsplP (t := 34) rfl (fun h5 => ?_) fun h5 => ?_
      ·refine qgn rfl <| qgn rfl <| qgn rfl <| qgn rfl <| qgu rfl <| qgu rfl <| qgu rfl <| qgu rfl <| qgn rfl <| qv (fun w hK => (pk rfl)) <| qn <| ?_
       intro w hK
       refine ctn <| ?_
       exact ⟨true, ⟨rfl, rfl, rfl, rfl, rfl, rfl, rfl, trivial⟩, by simp, fun _ g => by have := g.2.1 (by omega) (by omega); omega, hK⟩
      ·refine qgy rfl <| qv (fun w hK => (fa underlying98 rfl Ty.z3 rfl)) <| qgy rfl <| qldO Ty.o3 0 rfl rfl rfl <| qgy rfl <| qv (fun w hK => (ne rfl rfl)) <| qgy rfl <| qv (fun w hK => (mB rfl)) <| ?_
       refine qsplP (t := 38) rfl (fun h6 => ?_) fun h6 => ?_
       ·refine qgy rfl <| qv (fun w hK => (fa underlying98 rfl Ty.z3 rfl)) <| qgy rfl <| qldO Ty.o3 0 rfl rfl rfl <| qgy rfl <| ?_
        refine qcl call137 rfl (fun w hK => posok_c (C := fun w => K _ w _ _) hK) ?_
        refine qgy rfl <| qv (fun w hK => (nt rfl)) <| qgy rfl <| qv (fun w hK => (pk rfl)) <| qv (fun w hK => (pk rfl)) <| qn <| ?_
        intro w hK
        refine ctn <| ?_
        exact ⟨_, ⟨rfl, rfl, rfl, rfl, rfl, rfl, rfl, trivial⟩, fun hb => ⟨h1', fun _ _ => by omega, .inr (Decidable.not_not.1 (of_decide_eq_false hb))⟩, fun hb g => by rcases g.2.2 with g | g; exact h6 g; exact of_decide_eq_true hb g, hK⟩
       ·refine qgn rfl <| qgn rfl <| qgn rfl <| qgn rfl <| qgy rfl <| qv (fun w hK => (pk rfl)) <| qv (fun w hK => (pk rfl)) <| qn <| ?_
        intro w hK
        refine ctn <| ?_
        exact ⟨false, ⟨rfl, rfl, rfl, rfl, rfl, rfl, rfl, trivial⟩, fun hb => ⟨h1', fun _ _ => by omega, .inl (Decidable.not_not.1 h6)⟩, by simp, hK⟩
     ·refine qgn rfl <| qgn rfl <| qgn rfl <| qgn rfl <| qgn rfl <| qgn rfl <| qgn rfl <| qgn rfl <| qgn rfl <| qgy rfl <| qv (fun w hK => (pk rfl)) <| qv (fun w hK => (pk rfl)) <| qv (fun w hK => (mB rfl)) <| qgy rfl <| qv (fun w hK => (fa underlying98 rfl Ty.z3 rfl)) <| qgy rfl <| qldO Ty.o3 0 rfl rfl rfl <| qgy rfl <| qv (fun w hK => (ne rfl rfl)) <| qgy rfl <| qv (fun w hK => (mB rfl)) <| ?_
      refine qsplP (t := 38) rfl (fun h6 => ?_) fun h6 => ?_
      ·refine qgy rfl <| qv (fun w hK => (fa underlying98 rfl Ty.z3 rfl)) <| qgy rfl <| qldO Ty.o3 0 rfl rfl rfl <| qgy rfl <| ?_
       refine qcl call137 rfl (fun w hK => posok_c (C := fun w => K _ w _ _) hK) ?_
       refine qgy rfl <| qv (fun w hK => (nt rfl)) <| qgy rfl <| qv (fun w hK => (pk rfl)) <| qv (fun w hK => (pk rfl)) <| qn <| ?_
       intro w hK
       refine ctn <| ?_
       exact ⟨_, ⟨rfl, rfl, rfl, rfl, rfl, rfl, rfl, trivial⟩, fun hb => ⟨h1', fun _ _ => by omega, .inr (Decidable.not_not.1 (of_decide_eq_false hb))⟩, fun hb g => by rcases g.2.2 with g | g; exact h6 g; exact of_decide_eq_true hb g, hK⟩
      ·refine qgn rfl <| qgn rfl <| qgn rfl <| qgn rfl <| qgy rfl <| qv (fun w hK => (pk rfl)) <| qv (fun w hK => (pk rfl)) <| qn <| ?_
       intro w hK
       refine ctn <| ?_
       exact ⟨false, ⟨rfl, rfl, rfl, rfl, rfl, rfl, rfl, trivial⟩, fun hb => ⟨h1', fun _ _ => by omega, .inl (Decidable.not_not.1 h6)⟩, by simp, hK⟩
   ·rintro b g w ⟨hb1, hb2, hK⟩
    refine thn <| ?_
    refine cdB rfl (fun hb => ?_) fun hb => ?_
    ·refine sq <| rg <| ?_
     refine vl (aB rfl) <| nl <| thn <| rt <| thr <| bkr <| thr <| thr <| bkr <| thr <| p1r (a := .bool _) rfl <| ?_
     refine ⟨?_, hK.drop1⟩
     rw [dec_f]; intro h; exact hb2 hb (NdH.of h hi')
    ·have hg := hb1 hb
     refine sk <| thn <| sq <| rg <| ?_
     refine vl (fa underlying98 rfl Ty.z22 rfl) <| vl (ldO hK Ty.o22 0 rfl rfl rfl) <| vl (ln underlying22 rfl hx.len) <| vl (ne rfl rfl) <| vl (mB rfl) <| ?_
     refine splP (t := 49) rfl (fun h8 => ?_) fun h8 => ?_
     ·refine gn rfl <| gn rfl <| gn rfl <| gn rfl <| vl (pk rfl) <| nl <| thn <| ?_
      refine cdt rfl ?_
      refine sq <| rg <| ?_
      refine vl (aB rfl) <| nl <| thn <| rt <| bkr <| thr <| thr <| bkr <| thr <| p1r (a := .bool _) rfl <| ?_
      refine ⟨?_, hK.drop1⟩
      rw [dec_f]; intro h; have := (rgOk_at h hi').2.2.1; simp only [nd] at this; omega
     ·refine gy rfl <| vl (fa underlying98 rfl Ty.z22 rfl) <| gy rfl <| vl (ldO hK Ty.o22 0 rfl rfl rfl) <| gy rfl <| ?_
      refine cl call136 rfl (positions_c hK hx) ?_
      rintro _ w ⟨rfl, hK⟩
      refine gy rfl <| vl (ntB rfl) <| vl (pk rfl) <| nl <| thn <| ?_
      refine cdB rfl (fun h9 => ?_) fun h9 => ?_
      ·refine sq <| rg <| ?_
       refine vl (aB rfl) <| nl <| thn <| rt <| bkr <| thr <| thr <| bkr <| thr <| p1r (a := .bool _) rfl <| ?_
       refine ⟨?_, hK.drop1⟩
       rw [dec_f]; intro h
       exact not_dec (Eq.mp (Bool.not_eq_true' _) h9) (rgOk_at h hi').2.2.2
      ·refine sk <| bkn <| thn <| rg <| ?_
       refine vl (ad rfl rfl) <| vl (mI rfl) <| nl <| thn <| ?_
       have hp := of_dec (Eq.mp (Bool.not_eq_false' _) h9)
       exact ⟨i + 1, ⟨rfl, rfl, rfl, rfl, trivial⟩, ⟨hi', ha.snoc hi' ⟨hg.1, hg.2.2, by simp only [nd]; omega, hp⟩ (fun h0 => hg.2.1 h0 (by omega)), hK.drop1⟩, by omega⟩
  ·have hi' : i = rs.length := by omega
   subst hi'
   refine ex <| the <| the <| bkh <| thn <| sq <| rg <| ?_
   refine vl (aB rfl) <| nl <| thn <| rt <| p1r (a := .bool _) rfl <| ?_
   exact ⟨by rw [dec_t (rgOk_iff.2 ⟨by omega, ha⟩)], hK⟩
theorem implSkips_c (hK : K e w G L) {x : Rn} (hx : IntS G x.2.2.1 x.2.2.2) (hp : Pt x.1) (ha : ∀ y ∈ x.2.2.2, Pt y) (hk : Pt k) :
  Ret prog 181 #[.agg (rc x).toArray, .int .i64 k] w (fun r w' => r = .bool (skn (nd x) k) ∧ K e w' G L) := by
 have hle := hx.le
 refine enter1 (args := [.agg (rc x).toArray, .int .i64 k]) func181 rfl rfl rfl rfl ?_
 refine sq <| rg <| ?_
 refine bx hK rfl rfl ?_
 intro b2 w hK
 refine vl (aB rfl) <| nl <| thn <| sq <| rg <| vl (fa underlying98 rfl Ty.z3 rfl) <| vl (ldO hK Ty.o3 0 rfl rfl rfl) <| vl (aI rfl) <| nl <| thn <| sq <| sq <| rg <| vl (fa underlying98 rfl Ty.z22 rfl) <| vl (ldO hK Ty.o22 0 rfl rfl rfl) <| vl (ln underlying22 rfl hx.len) <| vl (mI rfl) <| nl <| thn <| ?_
 refine bk <| ?_
 refine lp (σ := Nat) (fun i => [(1, .int .i64 k), (5, .int .i64 ((x.2.2.2.take i).getLastD x.1)), (11, x.2.2.1), (12, .int .i64 (x.2.2.2.length : Int)), (13, .int .i64 (i : Int))]) (fun i w => i ≤ x.2.2.2.length ∧ skips x.1 (x.2.2.2.take i) k = false ∧ Pt ((x.2.2.2.take i).getLastD x.1) ∧ K e w G ((b2, row (rc x) 98) :: L)) (fun i => x.2.2.2.length - i) 0 ⟨rfl, rfl, rfl, rfl, rfl, trivial⟩ ⟨Nat.zero_le _, rfl, hp, hK⟩ ?_
 rintro i g w ⟨hi, hs, hl, hK⟩
 refine sq <| rg <| ?_
 refine vl (lt rfl rfl) <| nl <| thn <| sq <| ?_
 refine cdP rfl (fun hc => ?_) fun hc => ?_
 ·have hi' : i < x.2.2.2.length := by omega
  have hpi := ha _ (List.getElem_mem hi')
  have hsn : skips x.1 (x.2.2.2.take (i + 1)) k = btw ((x.2.2.2.take i).getLastD x.1) k x.2.2.2[i] := by
   rw [List.take_succ_eq_append_getElem hi', skips_snoc, hs]; rfl
  refine sk <| thn <| sq <| bk <| sq <| rg <| ?_
  refine vl (ixn1 underlying22 Ty.s3 rfl hx.1 rfl om) <| vl (ldV hK Ty.o3 rfl (hx.at om)) <| vl (aI rfl) <| nl <| thn <| sq <| sq <| rg <| vl (mI rfl) <| vl (mI rfl) <| vl (mI rfl) <| ?_
  refine cl call216 rfl (CircleBetween_c hK hl hk hpi) ?_
  rintro _ w ⟨rfl, hK⟩
  refine nl <| thn <| ?_
  refine cdB rfl (fun h1 => ?_) fun h1 => ?_
  ·refine sq <| rg <| ?_
   refine vl (aB rfl) <| nl <| thn <| rt <| thr <| bkr <| thr <| thr <| bkr <| thr <| p1r (a := .bool _) rfl <| ?_
   refine ⟨?_, hK.drop1⟩
   have h2 : skn (nd x) k = true := by
    show skips x.1 x.2.2.2 k = true
    rw [← List.take_append_drop (i + 1) x.2.2.2, skips_app, hsn, h1]; rfl
   rw [h2]
  ·refine sk <| thn <| rg <| ?_
   refine vl (mI rfl) <| vl (aI rfl) <| nl <| bkn <| thn <| rg <| vl (ad rfl rfl) <| vl (mI rfl) <| nl <| thn <| ?_
   exact ⟨i + 1, ⟨rfl, congrArg (Value.int .i64) (last_take hi' _), rfl, rfl, rfl, trivial⟩, ⟨hi', by rw [hsn, h1], by rw [← last_take hi']; exact hpi, hK⟩, by omega⟩
 ·have hi' : i = x.2.2.2.length := by omega
  subst hi'
  refine ex <| the <| the <| bkh <| thn <| sq <| rg <| ?_
  refine vl (aB rfl) <| nl <| thn <| rt <| p1r (a := .bool _) rfl <| ?_
  rw [List.take_length] at hs
  exact ⟨by show _ = Value.bool (skips x.1 x.2.2.2 k); rw [hs], hK.drop1⟩
theorem RingPrincipals1_c {bk : Nat} (hK : K e w G L) {y : Rn} (hn : (bk, row (rc y) 98) ∈ L) {x : Rn} (hx : IntS G x.2.2.1 x.2.2.2) (hok : NdOk (nd x)) (hk : Pt y.1) :
  Ret prog 180 #[.agg (rc x).toArray, .pointer (some ⟨bk, 0, none⟩)] w (fun r w' => r = .bool (skn (nd x) y.1) ∧ K e w' G L) := by
 refine enter1 (args := [.agg (rc x).toArray, .pointer (some ⟨bk, 0, none⟩)]) func180 rfl rfl rfl rfl ?_
 refine sq <| rg <| ?_
 refine bx hK rfl rfl ?_
 intro b2 w hK
 refine vl (aB rfl) <| nl <| thn <| sq <| rg <| vl (lsO hK Ty.a98 Ty.s98 0 rfl rfl rfl) <| vl (fa underlying98 rfl Ty.z3 rfl) <| vl (ldC Ty.o3 rfl (row_cell (l := rc y) (hK.own _ _ (List.mem_cons_of_mem _ hn)))) <| ?_
 refine cl call181 rfl (implSkips_c hK hx hok.1 hok.2.2.2 hk) ?_
 rintro _ w ⟨rfl, hK⟩
 refine vl (aB rfl) <| nl <| thn <| rt <| p1r (a := .bool _) rfl <| ?_
 exact ⟨rfl, hK.drop1⟩
theorem implRingPrincipals_c (hK : K e w G L) (hv : RngS G v rs) (hok : RgOk (rgl rs)) : Ret prog 135 #[v] w (fun r w' => ∃ A, OS 1 3 r (prin (rgl rs)).length (ints (prin (rgl rs))) A ∧ K e w' G (A ++ L)) := by
 have hs := hv.sl
 have hlen := (rgOk_iff.1 hok).1
 refine enter1 (args := [v]) func135 rfl rfl rfl rfl ?_
 refine sq <| rg <| ?_
 refine vl asg <| nl <| thn <| sq <| sq <| rg <| vl mv <| ?_
 refine cl call132 rfl (implRingValid_c hK hv) ?_
 rintro _ w ⟨rfl, hK⟩
 rw [dec_t hok]
 refine vl (ntB rfl) <| nl <| thn <| ?_
 refine cdB rfl (fun h0 => ?_) fun h0 => ?_
 ·simp at h0
 refine sk <| thn <| sq <| rg <| ?_
 refine vl asg <| nl <| thn <| sq <| sq <| rg <| vl mv <| vl (ln underlying25 rfl hs.len) <| vl (mI rfl) <| nl <| thn <| bk <| ?_
 refine lp (σ := Nat × Value × Own) (fun s => [(0, v), (3, s.2.1), (9, v), (10, .int .i64 (rs.length : Int)), (11, .int .i64 (s.1 : Int))]) (fun s w => s.1 ≤ rs.length ∧ OS 1 3 s.2.1 (prTo rs s.1).length (ints (prTo rs s.1)) s.2.2 ∧ K e w G (s.2.2 ++ L)) (fun s => rs.length - s.1) (0, .slice none 0 0, []) ⟨rfl, rfl, rfl, rfl, rfl, trivial⟩ ⟨Nat.zero_le _, by rw [prTo_zero]; exact OS.nil _ _, hK⟩ ?_
 rintro ⟨i, u, A⟩ g w ⟨hi, ho, hK⟩
 simp only at hi ho hK
 refine sq <| rg <| ?_
 refine vl (lt rfl rfl) <| nl <| thn <| sq <| ?_
 refine cdP rfl (fun hc => ?_) fun hc => ?_
 ·have hi' : i < rs.length := by simp only at hc; omega
  have hx := hv.at hi'
  have hpl := prTo_len rs i
  refine sk <| thn <| sq <| bk <| sq <| rg <| ?_
  refine vl (ixn underlying25 Ty.s98 rfl hs.1 rfl om) <| vl (lsF hK Ty.a98 Ty.s98 rfl hs om) <| ?_
  refine al hK Ty.i98 rfl ?_
  intro b5 w hK
  refine soS hK Ty.i98 0 rfl rfl rfl rfl (allc rfl (allc rfl (allc hx.1.one rfl))) rfl ?_
  intro w hK
  refine nl <| thn <| sq <| rg <| vl mv <| vl (mkf rfl) <| ?_
  refine cl call179 rfl (containsFuncN_c (cap := [.pointer (some ⟨b5, 0, none⟩)]) (q := fun x => skn (nd x) rs[i].1) call180 hK hv (fun x hx w hK => RingPrincipals1_c (y := rs[i]) hK (List.mem_cons_self ..) (hv.aft x hx) (hok.2.1 _ (List.mem_map.2 ⟨x, hx, rfl⟩)) (rgOk_at hok hi').1)) ?_
  rintro _ w ⟨rfl, hK⟩
  refine vl (ntB rfl) <| nl <| thn <| ?_
  refine cdB rfl (fun h2 => ?_) fun h2 => ?_
  ·refine rg <| ?_
   refine vl mv <| vl (fa underlying98 rfl Ty.z3 rfl) <| vl (ldO hK Ty.o3 0 rfl rfl rfl) <| ?_
   refine bsN [.tmp 21] hK underlying22 Ty.i3 rfl rfl rfl rfl rfl rfl rfl rfl ?_
   intro b22 w hK
   replace hK := K.midc (A := [_]) hK
   refine apI1 (k := rs[i].1) hK underlying22 Ty.i3 rfl rfl ho rfl om fun v' A' w ho hK => ?_
   replace hK := K.mid (B := [_]) hK
   refine vl asg <| nl <| bkn <| thn <| rg <| vl (ad rfl rfl) <| vl (mI rfl) <| nl <| thn <| ?_
   exact ⟨(i + 1, v', A'), ⟨rfl, rfl, rfl, rfl, rfl, trivial⟩, ⟨hi', by rw [prTo_yes hi' (Eq.mp (Bool.not_eq_true' _) h2)]; exact ho, hK.mid1.drop1⟩, by simp only; omega⟩
  ·refine sk <| bkn <| thn <| rg <| ?_
   refine vl (ad rfl rfl) <| vl (mI rfl) <| nl <| thn <| ?_
   exact ⟨(i + 1, u, A), ⟨rfl, rfl, rfl, rfl, rfl, trivial⟩, ⟨hi', by rw [prTo_no hi' (Eq.mp (Bool.not_eq_false' _) h2)]; exact ho, hK.drop1⟩, by simp only; omega⟩
 ·have hi' : i = rs.length := by simp only at hc; omega
  subst hi'
  refine ex <| the <| the <| bkh <| thn <| sq <| rg <| ?_
  refine vl mv <| vl asg <| nl <| thn <| rt <| p1r (a := _) rfl <| ?_
  rw [prTo_all] at ho
  exact ⟨A, ho, hK⟩
theorem RingSafe1_c {bk t : Nat} (hK : K e w G L) (hn : (bk, row [v] t) ∈ L) (hv : RngS G v rs) :
  Ret prog 133 #[.int .i64 k, .pointer (some ⟨bk, 0, none⟩)] w (fun r w' => r = .bool (decide (k ∈ ids (rgl rs))) ∧ K e w' G L) := by
 refine enter1 (args := [.int .i64 k, .pointer (some ⟨bk, 0, none⟩)]) func133 rfl rfl rfl rfl ?_
 refine sq <| rg <| ?_
 refine vl (aB rfl) <| nl <| thn <| sq <| rg <| vl (ldC Ty.o25 rfl (row_cell (l := [v]) (hK.own _ _ hn))) <| vl (mI rfl) <| ?_
 refine cl call134 rfl (nodeAt_c hK hv) ?_
 rintro _ w ⟨rfl, hK⟩
 refine vl (nePn underlying143 rfl rfl) <| vl (aB rfl) <| nl <| thn <| rt <| p1r (a := .bool _) rfl <| ?_
 exact ⟨congrArg Value.bool (Bool.eq_iff_iff.2 (by rw [nAt_some]; simp)), hK⟩
theorem implRingSafe_c (hK : K e w G L) (hv : RngS G v rs) : Ret prog 83 #[v] w (fun r w' => r = .bool (dec (RgSafe (rgl rs))) ∧ K e w' G L) := by
 have hs := hv.sl
 refine enter1 (args := [v]) func83 rfl rfl rfl rfl ?_
 refine sq <| rg <| ?_
 refine bx1 hK rfl hs.1.one ?_
 intro b1 w hK
 refine vl (aB rfl) <| nl <| thn <| sq <| sq <| rg <| vl (ldO hK Ty.o25 0 rfl rfl rfl) <| ?_
 refine cl call132 rfl (implRingValid_c hK hv) ?_
 rintro _ w ⟨rfl, hK⟩
 refine vl (ntB rfl) <| nl <| thn <| ?_
 refine cdB rfl (fun h1 => ?_) fun h1 => ?_
 ·refine sq <| rg <| ?_
  refine vl (aB rfl) <| nl <| thn <| rt <| thr <| p1r (a := .bool _) rfl <| ?_
  exact ⟨by rw [dec_f]; intro h; exact not_dec (Eq.mp (Bool.not_eq_true' _) h1) h.1, hK.drop1⟩
 ·have hok := of_dec (Eq.mp (Bool.not_eq_false' _) h1)
  have hlen := (rgOk_iff.1 hok).1
  refine sk <| thn <| sq <| rg <| ?_
  refine vl (mkf rfl) <| vl asg <| nl <| thn <| sq <| sq <| rg <| vl (ldO hK Ty.o25 0 rfl rfl rfl) <| vl (ln underlying25 rfl hs.len) <| vl (mI rfl) <| nl <| thn <| bk <| ?_
  refine lp (σ := Nat) (fun i => [(1, .pointer (some ⟨b1, 0, none⟩)), (3, .func (.func 133) #[] #[.pointer (some ⟨b1, 0, none⟩)]), (10, v), (11, .int .i64 (rs.length : Int)), (12, .int .i64 (i : Int))]) (fun i w => i ≤ rs.length ∧ (∀ x ∈ rs.take i, ∃ k ∈ x.2.2.2, k ∈ ids (rgl rs)) ∧ K e w G ((b1, row [v] 25) :: L)) (fun i => rs.length - i) 0 ⟨rfl, rfl, rfl, rfl, rfl, trivial⟩ ⟨Nat.zero_le _, by simp, hK⟩ ?_
  rintro i g w ⟨hi, ha, hK⟩
  refine sq <| rg <| ?_
  refine vl (lt rfl rfl) <| nl <| thn <| sq <| ?_
  refine cdP rfl (fun hc => ?_) fun hc => ?_
  ·have hi' : i < rs.length := by omega
   have hx := hv.at hi'
   refine sk <| thn <| sq <| bk <| sq <| rg <| ?_
   refine vl (ixn underlying25 Ty.s98 rfl hs.1 rfl om) <| vl (lsF hK Ty.a98 Ty.s98 rfl hs om) <| ?_
   refine al hK Ty.i98 rfl ?_
   intro b5 w hK
   refine soS hK Ty.i98 0 rfl rfl rfl rfl (allc rfl (allc rfl (allc hx.1.one rfl))) rfl ?_
   intro w hK
   refine nl <| thn <| sq <| rg <| vl (fa underlying98 rfl Ty.z22 rfl) <| vl (ldO hK Ty.o22 0 rfl rfl rfl) <| vl mv <| ?_
   refine cl call130 rfl (containsFunc_c (cap := [.pointer (some ⟨b1, 0, none⟩)]) (q := fun k => decide (k ∈ ids (rgl rs))) call133 hK hx (fun k w hK => RingSafe1_c (t := 25) hK (by simp) hv)) ?_
   rintro _ w ⟨⟨b, rfl, hb⟩, hK⟩
   refine vl (ntB rfl) <| nl <| thn <| ?_
   refine cdB rfl (fun h2 => ?_) fun h2 => ?_
   ·refine sq <| rg <| ?_
    refine vl (aB rfl) <| nl <| thn <| rt <| bkr <| thr <| thr <| bkr <| thr <| p1r (a := .bool _) rfl <| ?_
    refine ⟨?_, hK.drop1.drop1⟩
    rw [dec_f]; intro h
    obtain ⟨k, h3, h4⟩ := (rgSafe_iff.1 h).2.1 _ (List.getElem_mem hi')
    have := hb.2 ⟨k, h3, decide_eq_true h4⟩
    rw [this] at h2; cases h2
   ·have h3 := Eq.mp (Bool.not_eq_false' _) h2
    obtain ⟨k, h4, h5⟩ := hb.1 h3
    refine sk <| bkn <| thn <| rg <| ?_
    refine vl (ad rfl rfl) <| vl (mI rfl) <| nl <| thn <| ?_
    exact ⟨i + 1, ⟨rfl, rfl, rfl, rfl, rfl, trivial⟩, ⟨hi', all_snoc hi' ha ⟨k, h4, of_decide_eq_true h5⟩, hK.drop1⟩, by omega⟩
  ·have hi' : i = rs.length := by omega
   subst hi'
   rw [List.take_length] at ha
   refine ex <| the <| the <| bkh <| thn <| sq <| rg <| ?_
   refine vl (ldO hK Ty.o25 0 rfl rfl rfl) <| ?_
   refine cl call135 rfl (implRingPrincipals_c hK hv hok) ?_
   rintro u w ⟨A, ho, hK⟩
   refine vl (ln underlying22 rfl ho.len) <| vl (ge rfl rfl) <| vl (aB rfl) <| nl <| thn <| rt <| p1r (a := .bool _) rfl <| ?_
   refine ⟨?_, (K.dropL hK).drop1⟩
   rw [← dec_dec]
   exact congrArg Value.bool (dec_congr ⟨fun h => rgSafe_iff.2 ⟨hok, ha, by omega⟩, fun h => by have := (rgSafe_iff.1 h).2.2; omega⟩)
end
end Go.Proofs.YtmgggljicpmndaaGreatDoor
