/- The program's rings that a node leaves or joins. Conditions: those that each row states. -/
import Derived.Test.YtbiihblpgfgaoabGreatDoorLw
namespace Go.Proofs.YtbiihblpgfgaoabGreatDoor
open Go Go.Ro Tryz
section
variable {e w : World} {G : View} {L A : Own} {v u : Value} {xs ys : List Int} {rs qs : List Rn} {a b k id other at' : Int} {i sb bk : Nat}
theorem at_flatR {xs : List Rn} {i : Nat} {x : Rn} (h : xs[i]? = some x) : ∀ (j : Nat) (c : Value), (rc x)[j]? = some c → (xs.flatMap rc)[i * 3 + j]? = some c := fun j c hj => by
 rw [flat_get' rc_len xs i j x h (by have := (List.getElem?_eq_some_iff.1 hj).1; rwa [rc_len] at this)]; exact hj
set_option maxHeartbeats 1000000 in
theorem deleteFuncN_c {F : FuncId} {cap : List Value} {q : Rn → Bool} (hf : ∀ args w, (callFunc F args).run prog w = .ok (.enter F args) w) (hK : K e w G (A ++ L)) (hO : OR G 84 v rs A) (hl : rs.length ≤ 1000000)
  (hp : ∀ (G : View) x w, Ro.one x.2.2.1 = true → K e w G L → Ret prog F ([Value.agg (rc x).toArray] ++ cap).toArray w (fun r w' => r = .bool (q x) ∧ K e w' G L)) :
  Ret prog 263 #[v, .func (.func F) #[] cap.toArray] w (fun r w' => ∃ A', OR G 84 r (rs.filter fun x => !q x) A' ∧ K e w' G (A' ++ L)) := by
 have ho := hO.os
 have hone : ∀ x ∈ rs, Ro.one x.2.2.1 = true := fun x hx => (hO.aft x hx).1.one
 have haf := hO.aft
 refine enter1 (args := [v, .func (.func F) #[] cap.toArray]) func263 rfl rfl rfl rfl ?_
 refine sq <| rg <| ?_
 refine vl asg <| nl <| thn <| sq <| rg <| vl mv <| vl mv <| ?_
 refine cl call191 rfl (Ret.own (R := fun r => ∃ i, r = .int .i64 i ∧ IdxOf q rs i) hK (fun hK' => indexFuncN_c hf hK' (hO.fr hK) (fun x hx w hK'' => hp _ x w (hone x hx) hK''))) ?_
 rintro _ w ⟨⟨m, rfl, hm⟩, hK⟩
 refine vl (aI rfl) <| nl <| thn <| sq <| sq <| rg <| vl (mI rfl) <| vl (eq rfl rfl) <| nl <| thn <| ?_
 refine cdP rfl (fun h0 => ?_) fun h0 => ?_
 ·have hno : ∀ x ∈ rs, q x = false := by
   rcases hm with ⟨_, h⟩ | ⟨k, rfl, _⟩
   ·exact h
   ·omega
  have hfl : (rs.filter fun x => !q x) = rs := List.filter_eq_self.2 fun x hx => by rw [hno x hx]; rfl
  refine sq <| rg <| ?_
  refine vl mv <| vl asg <| nl <| thn <| rt <| thr <| p1r (a := _) rfl <| ?_
  exact ⟨A, by rw [hfl]; exact hO, hK⟩
 ·obtain ⟨k, rfl, hk, hqk, hbe⟩ : ∃ k : Nat, m = k ∧ ∃ h : k < rs.length, q rs[k] = true ∧ ∀ x ∈ rs.take k, q x = false := by
   rcases hm with ⟨h, _⟩ | h
   ·exact absurd h h0
   ·exact h
  obtain ⟨b, cp, cur, rfl, rfl, g1, g2, g3, g4⟩ : ∃ b cp cur, v = .slice (some ⟨b, 0, none⟩) rs.length cp ∧ A = [(b, .cells cur 84 (0, 0))] ∧ rs.length ≤ cp ∧ cp ≤ maxLen ∧ cur.size = cp * 3 ∧ cur.toList.take (rs.length * 3) = rs.flatMap rc := by
   rcases ho with ⟨_, ⟨_, h, _⟩ | h⟩
   ·omega
   ·exact h
  have hfk : (rs.take k).filter (fun x => !q x) = rs.take k := List.filter_eq_self.2 fun x hx => by rw [hbe x hx]; rfl
  have hk1 : ((rs.take (k + 1)).filter fun x => !q x) = rs.take k := by rw [(flt_skip (q := q) (ys := rs) hk rfl hqk).1, hfk]
  have hs : SlLen (.slice (some ⟨b, 0, none⟩) rs.length cp) rs.length := ⟨_, _, rfl⟩
  clear g3 g4 hO
  refine sk <| thn <| sq <| sq <| rg <| ?_
  refine vl (mI rfl) <| vl (ad rfl rfl) <| vl (aI rfl) <| nl <| thn <| bk <| ?_
  refine lp (σ := Nat × Nat × List Rn × Own) (fun s => [(0, .slice (some ⟨b, 0, none⟩) rs.length cp), (1, .func (.func F) #[] cap.toArray), (5, .int .i64 (s.1 : Int)), (6, .int .i64 (s.2.1 : Int))]) (fun s w => s.1 < s.2.1 ∧ s.2.1 ≤ rs.length ∧ s.2.2.1.length = rs.length ∧ s.1 = ((rs.take s.2.1).filter fun x => !q x).length ∧ s.2.2.1.take s.1 = ((rs.take s.2.1).filter fun x => !q x) ∧ s.2.2.1.drop s.2.1 = rs.drop s.2.1 ∧ OS 3 84 (.slice (some ⟨b, 0, none⟩) rs.length cp) rs.length (s.2.2.1.flatMap rc) s.2.2.2 ∧ K e w G (s.2.2.2 ++ L)) (fun s => rs.length - s.2.1) (k, k + 1, rs, [_]) ⟨rfl, rfl, rfl, rfl, trivial⟩ ⟨Nat.lt_succ_self _, hk, rfl, by simp only; rw [hk1, List.length_take]; omega, by simp only; rw [hk1], rfl, ho, hK⟩ ?_
  rintro ⟨i, j, ys, A⟩ g w ⟨hij, hj, hyl, hi, hy1, hy2, ho, hK⟩
  simp only at hij hj hyl hi hy1 hy2 ho hK
  refine sq <| sq <| rg <| ?_
  refine vl (mI rfl) <| vl mv <| vl (ln underlying32 rfl (by assumption)) <| vl (lt rfl rfl) <| nl <| thn <| ?_
  refine cdP rfl (fun hc => ?_) fun hc => ?_
  ·have hj' : j < rs.length := by simp only at hc; omega
   obtain ⟨x, hxe⟩ : ∃ x, rs[j]'hj' = x := ⟨_, rfl⟩
   have hyj : ys[j]? = some x := (drop_at hy2 hj').trans (congrArg some hxe)
   have hx1 : Ro.one x.2.2.1 = true := hone x (hxe ▸ List.getElem_mem hj')
   have hxo : (rc x).all Ro.one = true := allc rfl (allc rfl (allc hx1 rfl))
   refine sk <| thn <| sq <| bk <| sq <| rg <| ?_
   refine vl mv <| vl (mI rfl) <| vl (ixn underlying32 Ty.s84 rfl ho.slw rfl hj') <| vl (lsW (sz := 3) (i := j) (u := rc x) hK ho Ty.a84 Ty.s84 rfl rfl hj' (at_flatR hyj)) <| ?_
   refine al hK Ty.i84 rfl ?_
   intro b7 w hK
   refine soS hK Ty.i84 0 rfl rfl rfl rfl hxo rfl ?_
   intro w hK
   refine nl <| thn <| sq <| rg <| vl mv <| vl (lsO hK Ty.a84 Ty.s84 0 rfl rfl rfl) <| ?_
   replace hK : K e w G ((b7, row (rc x) 84) :: (A ++ L)) := hK
   have hcl := Ret.own (A := (b7, row (rc x) 84) :: A) (R := fun r => r = .bool (q x)) hK (fun hK' => hp _ x _ hx1 hK')
   refine cf (cap := cap) (hf) rfl rfl (hcl) ?_
   rintro _ w ⟨rfl, hK⟩
   refine vl (ntB rfl) <| nl <| thn <| ?_
   refine cdB rfl (fun hq => ?_) fun hq => ?_
   ·have hst := flt_step hj' hyl hi hy1 hy2 (by rw [hxe]; simpa using hq)
    rw [hxe] at hst
    refine sq <| rg <| ?_
    refine vl mv <| vl (mI rfl) <| vl (lsO hK Ty.a84 Ty.s84 0 rfl rfl rfl) <| vl (ixn underlying32 Ty.s84 rfl ho.slw rfl om) <| ?_
    refine osSetS (i := i) (us := rc x) (K.mid1 hK) ho om Ty.i84 rfl rfl rfl hxo fun A' w ho hK => ?_
    rw [flat_sets (c := rc) (sz := 3) rc_len _ i x (by omega)] at ho
    refine nl <| thn <| rg <| vl (mI rfl) <| vl (ad rfl rfl) <| vl (aI rfl) <| nl <| bkn <| thn <| rg <| vl (mI rfl) <| vl (ad rfl rfl) <| vl (aI rfl) <| nl <| thn <| ?_
    exact ⟨(i + 1, j + 1, ys.set i x, A'), ⟨rfl, rfl, rfl, rfl, trivial⟩, ⟨by simp only; omega, hj', by simp only; rw [List.length_set]; exact hyl, hst.2.1, hst.2.2.1, hst.2.2.2, ho, K.dropX (A := A') hK⟩, by simp only; omega⟩
   ·have hst := flt_skip (q := q) hj' hy2 (by rw [hxe]; simpa using hq)
    refine sk <| bkn <| thn <| rg <| ?_
    refine vl (mI rfl) <| vl (ad rfl rfl) <| vl (aI rfl) <| nl <| thn <| ?_
    exact ⟨(i, j + 1, ys, A), ⟨rfl, rfl, rfl, rfl, trivial⟩, ⟨by simp only; omega, hj', hyl, by simp only; rw [hst.1]; exact hi, by simp only; rw [hst.1]; exact hy1, hst.2, ho, hK.drop1⟩, by simp only; omega⟩
  ·have hj' : j = rs.length := by simp only at hc; omega
   subst hj'
   rw [List.take_length] at hi hy1
   obtain ⟨b', cap', cu, hv', rfl, k1, k2, k3, k4⟩ := ho.2.resolve_left (fun h => by have := h.2.1; omega)
   cases hv'
   have hil : i ≤ rs.length := by omega
   refine ex <| the <| the <| bkh <| thn <| sq <| rg <| ?_
   refine vl mv <| vl (mI rfl) <| ?_
   refine vl (slLoC (l := i) underlying32 Ty.s84 rfl rfl hil k1 om) <| ?_
   refine clK hK underlying32 Ty.i84 rfl rfl rfl (by rw [k3, ← Nat.add_mul]; exact Nat.mul_le_mul_right _ om) fun w hK => ?_
   refine nl <| thn <| sq <| rg <| vl mv <| vl (mI rfl) <| vl (slHiC (h := i) underlying32 Ty.s84 rfl rfl om) <| vl asg <| nl <| thn <| rt <| p1r (a := _) rfl <| ?_
   have hkr := keepR (t := 84) (b := b) (Z := (Builtin.zeroCells (Value.agg #[.int .i64 0, .int .i64 0, .slice none 0 0]).cells (rs.length - i)).toList) hil k1 k2 k3 k4 (by rw [Array.length_toList, size_zeroCells]; rfl)
   rw [flat_take rc_len, hy1] at hkr
   refine ⟨[(b, _)], ⟨?_, fun y hy => haf y (List.mem_filter.1 hy).1⟩, hK⟩
   rw [← hi]; exact hkr
theorem fail1_c {t : Nat} (hK : K e w G L) (hn : (bk, row [.int .i64 k] t) ∈ L) {x : Rn} (_ : Ro.one x.2.2.1 = true) :
  Ret prog 264 #[.agg (rc x).toArray, .pointer (some ⟨bk, 0, none⟩)] w (fun r w' => r = .bool (decide (x.1 = k)) ∧ K e w' G L) := by
 refine enter1 (args := [.agg (rc x).toArray, .pointer (some ⟨bk, 0, none⟩)]) func264 rfl rfl rfl rfl ?_
 refine sq <| rg <| ?_
 refine bx hK rfl rfl ?_
 intro b2 w hK
 refine vl (aB rfl) <| nl <| thn <| sq <| rg <| vl (fa underlying84 rfl Ty.z3 rfl) <| vl (ldO hK Ty.o3 0 rfl rfl rfl) <| vl (ldC Ty.o3 rfl (row_cell (l := [Value.int .i64 k]) (hK.own _ _ (List.mem_cons_of_mem _ hn)))) <| vl (eq rfl rfl) <| vl (aB rfl) <| nl <| thn <| rt <| p1r (a := .bool _) rfl <| ?_
 exact ⟨rfl, hK.drop1⟩
theorem rgl_filter {rs : List Rn} {id : Int} : rgl (rs.filter fun x => !decide (x.1 = id)) = (rgl rs).filter (fun x => decide (x.1 ≠ id)) := by
 unfold rgl
 rw [List.filter_map]
 congr 1
 apply List.filter_congr
 intro x _
 by_cases h : x.1 = id <;> simp [nd, h]
theorem failStep_c (hsf : RgSafe (rgl rs)) (ho : OR G 84 v rs A) (hK : K e w G ((sb, row [v] 225) :: (A ++ L))) :
  Ret prog 253 #[.pointer (some ⟨sb, 0, none⟩), .int .i64 id, .int .i64 other] w (StpR e G 84 225 sb L (failR (rgl rs) id)) := by
 obtain ⟨Gf, hGf, hR, hsb, hK, hback⟩ := ho.all hK
 have hs := hR.sl
 have hrl : rs.length ≤ 10 := by have := hsf.1.1; rwa [rg_len] at this
 refine enter1 (args := [.pointer (some ⟨sb, 0, none⟩), .int .i64 id, .int .i64 other]) func253 rfl rfl rfl rfl ?_
 refine sq <| rg <| ?_
 refine bx hK rfl rfl ?_
 intro b4 w hK
 refine vl (aB rfl) <| nl <| thn <| sq <| sq <| ?_
 refine rgq (fun w => K _ w _ _) Ty.mixed kr (hK.drawn _) ?_
 refine qv (fun w hK => mv) <| qv (fun w hK => (nc rfl)) <| qv (fun w hK => (fa underlying225 rfl Ty.z32 rfl)) <| qldV Ty.o32 rfl hsb <| qldO Ty.o3 0 rfl rfl rfl <| ?_
 by_cases hm : id ∈ ids (rgl rs)
 ·obtain ⟨i, hn⟩ := NdA.of' hR hsf hm
  refine qcl call162 rfl (fun w hK => nodeAt_in hK hR hn) ?_
  refine qv (fun w hK => (eqPn underlying167 rfl rfl)) <| qn <| ?_
  intro w hK
  refine thn <| ?_
  refine cdB rfl (fun h2 => ?_) fun h2 => ?_
  ·cases h2
  ·have _ := trivial
   refine sk <| thn <| sq <| rg <| ?_
   refine vl mv <| vl mv <| vl (nc rfl) <| vl (fa underlying225 rfl Ty.z32 rfl) <| vl (ldV hK Ty.o32 rfl hsb) <| vl (mkf rfl) <| ?_
   replace hK : K e w G (A ++ ((sb, row [v] 225) :: (b4, row [.int .i64 id] 3) :: L)) := K.mid (A := [_]) (B := A) (hback _ _ hK)
   refine cl call263 rfl (deleteFuncN_c (F := 264) (cap := [.pointer (some ⟨b4, 0, none⟩)]) (q := fun x => decide (x.1 = id)) call264 hK ho om (fun G x w h1 hK => fail1_c (t := 3) hK (by simp) h1)) ?_
   rintro v20 w ⟨A2, ho2, hK⟩
   replace hK : K e w G ((sb, row [v] 225) :: (A2 ++ ((b4, row [.int .i64 id] 3) :: L))) := K.back1 hK
   refine vl (nc rfl) <| vl (fa underlying225 rfl Ty.z32 rfl) <| ?_
   refine so hK Ty.i32 rfl 0 rfl rfl rfl ho2.os.one rfl ?_
   intro w hK
   refine nl <| thn <| sq <| rg <| vl mv <| vl (nc rfl) <| vl (fa underlying225 rfl Ty.z32 rfl) <| vl (ldO hK Ty.o32 0 rfl rfl rfl) <| ?_
   replace hK : K e w G ((sb, row [v20] 225) :: (A2 ++ ((b4, row [.int .i64 id] 3) :: L))) := hK
   have hall := ho2.all hK
   clear hK
   obtain ⟨Gf2, hGf2, hR2, hsb2, hK, hback2⟩ := hall
   refine cl call121 rfl (implRingSafe_c hK hR2) ?_
   rintro _ w ⟨rfl, hK⟩
   refine vl (aB rfl) <| nl <| thn <| rt <| p1r (a := .bool _) rfl <| ?_
   by_cases hsafe : RgSafe ((rgl rs).filter (fun x => decide (x.1 ≠ id)))
   ·exact .inr ⟨G, v20, _, A2, congrArg Value.bool (dec_t (by rw [rgl_filter]; exact hsafe)), by unfold failR; rw [if_pos ⟨hm, dec_t hsafe⟩, rgl_filter], VLe.refl _, ho2, hback2 _ _ hK.drop1⟩
   ·exact .inl ⟨congrArg Value.bool (dec_f (by rw [rgl_filter]; exact hsafe)), if_neg (fun h => hsafe (of_dec h.2)), (hback2 _ _ hK.drop1).drop1.dropL'⟩
 ·skip
  refine qcl call162 rfl (fun w hK => nodeAt_no hK hR hm) ?_
  refine qv (fun w hK => (eqPn underlying167 rfl rfl)) <| qn <| ?_
  intro w hK
  refine thn <| ?_
  refine cdB rfl (fun h1 => ?_) fun h1 => ?_
  ·refine sq <| rg <| ?_
   refine vl (aB rfl) <| nl <| thn <| rt <| thr <| p1r (a := .bool _) rfl <| ?_
   exact .inl ⟨rfl, if_neg fun h => hm h.1, (hback _ _ hK.drop1).drop1.dropL'⟩
  ·cases h1
theorem join1_c (hK : K e w G L) {x : Rn} (hx : Pt x.1) (_ : Ro.one x.2.2.1 = true) (hk : Pt k) : Ret prog 261 #[.agg (rc x).toArray, .int .i64 k] w (fun r w' => (∃ m, r = .int .i64 m ∧ (m < 0 ↔ x.1 < k) ∧ (m = 0 ↔ x.1 = k)) ∧ K e w' G L) := by
 have g1 := hx.1
 have g2 := hx.2
 have g3 := hk.1
 have g4 := hk.2
 refine enter1 (args := [.agg (rc x).toArray, .int .i64 k]) func261 rfl rfl rfl rfl ?_
 refine sq <| rg <| ?_
 refine bx hK rfl rfl ?_
 intro b2 w hK
 refine vl (aI rfl) <| nl <| thn <| sq <| rg <| vl (fa underlying84 rfl Ty.z3 rfl) <| vl (ldO hK Ty.o3 0 rfl rfl rfl) <| vl (mI rfl) <| vl (sb rfl rfl) <| vl (aI rfl) <| nl <| thn <| rt <| p1r (a := .int _ _) rfl <| ?_
 exact ⟨⟨_, rfl, by omega, by omega⟩, hK.drop1⟩
theorem rgl_ins {rs : List Rn} {i : Nat} {b : Bool} {X : Rn} (h : BsR (fun x : Rn => x.1) rs id i b) :
  rgl (rs.take i ++ X :: rs.drop i) = (rgl rs).takeWhile (fun x => decide (x.1 < id)) ++ nd X :: (rgl rs).dropWhile (fun x => decide (x.1 < id)) := by
 have e1 : (rgl rs).takeWhile (fun x => decide (x.1 < id)) = rgl (rs.take i) := by
  rw [← h.take.1]; unfold rgl; rw [List.takeWhile_map]; rfl
 have e2 : (rgl rs).dropWhile (fun x => decide (x.1 < id)) = rgl (rs.drop i) := by
  rw [← h.take.2]; unfold rgl; rw [List.dropWhile_map]; rfl
 rw [e1, e2]; unfold rgl; rw [List.map_append, List.map_cons]
set_option maxHeartbeats 2000000 in
theorem joinStep_c (hsf : RgSafe (rgl rs)) (hid : Pt id) (hat : Pt at') (ho : OR G 84 v rs A) (hK : K e w G ((sb, row [v] 225) :: (A ++ L))) :
  Ret prog 251 #[.pointer (some ⟨sb, 0, none⟩), .int .i64 id, .int .i64 at'] w (StpR e G 84 225 sb L (joinR (rgl rs) id at')) := by
 obtain ⟨Gf, hGf, hR, hsb, hK, hback⟩ := ho.all hK
 have hs := hR.sl
 have hrl : rs.length ≤ 10 := by have := hsf.1.1; rwa [rg_len] at this
 have hrle : (rgl rs).length = rs.length := rg_len rs
 have hpw : rs.Pairwise (fun a b => a.1 < b.1) := by have := hsf.1.2.2; unfold rgl at this; exact (List.pairwise_map (f := nd) (R := fun a b : Nd => a.1 < b.1)).1 this
 have hpt : ∀ x ∈ rs, Pt x.1 := fun x hx => (hsf.1.2.1 (nd x) (List.mem_map.2 ⟨x, hx, rfl⟩)).1
 refine enter1 (args := [.pointer (some ⟨sb, 0, none⟩), .int .i64 id, .int .i64 at']) func251 rfl rfl rfl rfl ?_
 refine sq <| rg <| ?_
 refine vl (aB rfl) <| nl <| thn <| sq <| rg <| vl mv <| vl (nc rfl) <| vl (fa underlying225 rfl Ty.z32 rfl) <| vl (ldV hK Ty.o32 rfl hsb) <| vl (mI rfl) <| ?_
 by_cases hm2 : at' ∈ ids (rgl rs)
 ·obtain ⟨i, hn⟩ := NdA.of' hR hsf hm2
  have hi := hn.lt
  have hxf := hn.aft
  have hal := hn.len
  have hc0 : cellV Gf (elA rs[i].2.2.1 0) = some (.int .i64 (a0 (ndAt (rgl rs) at'))) := by rw [← hn.ha0]; exact hxf.at _
  refine cl call162 rfl (nodeAt_in hK hR hn) ?_
  rintro _ w ⟨rfl, hK⟩
  refine vl asg <| nl <| thn <| sq <| sq <| rg <| vl mv <| vl (nc rfl) <| vl (fa underlying225 rfl Ty.z32 rfl) <| vl (ldV hK Ty.o32 rfl hsb) <| vl (mI rfl) <| ?_
  by_cases hm : id ∈ ids (rgl rs)
  ·obtain ⟨j, hn1⟩ := NdA.of' hR hsf hm
   refine cl call162 rfl (nodeAt_in hK hR hn1) ?_
   rintro _ w ⟨rfl, hK⟩
   refine vl (nePn underlying167 rfl rfl) <| vl (mB rfl) <| ?_
   refine spl (t := 24) rfl (fun h1 => ?_) fun h1 => ?_
   ·refine gn rfl <| gn rfl <| vl (pk rfl) <| vl (mB rfl) <| gn rfl <| gn rfl <| gn rfl <| gn rfl <| gn rfl <| gn rfl <| vl (pk rfl) <| vl (mB rfl) <| gn rfl <| gn rfl <| gn rfl <| gn rfl <| gn rfl <| gn rfl <| gn rfl <| gn rfl <| gn rfl <| gn rfl <| vl (pk rfl) <| nl <| thn <| ?_
    refine cdt rfl ?_
    refine sq <| rg <| ?_
    refine vl (aB rfl) <| nl <| thn <| rt <| thr <| p1r (a := .bool _) rfl <| ?_
    exact .inl ⟨rfl, joinR_no fun h => h.1 hm, (hback _ _ hK).drop1.dropL'⟩
   ·cases h1
  ·skip
   refine cl call162 rfl (nodeAt_no hK hR hm) ?_
   rintro _ w ⟨rfl, hK⟩
   refine vl (nePn underlying167 rfl rfl) <| vl (mB rfl) <| ?_
   refine spl (t := 24) rfl (fun h1 => ?_) fun h1 => ?_
   ·cases h1
   ·refine gy rfl <| vl mv <| gy rfl <| vl (eqPn underlying167 rfl rfl) <| vl (pk rfl) <| vl (mB rfl) <| ?_
    refine spl (t := 28) rfl (fun h2 => ?_) fun h2 => ?_
    ·cases h2
    ·refine gy rfl <| vl mv <| gy rfl <| vl (nc rfl) <| gy rfl <| vl (fa underlying225 rfl Ty.z32 rfl) <| gy rfl <| vl (ldV hK Ty.o32 rfl hsb) <| gy rfl <| vl (ln underlying32 rfl hs.len) <| gy rfl <| vl (eq rfl rfl) <| vl (pk rfl) <| vl (mB rfl) <| ?_
     refine splP (t := 36) rfl (fun h3 => ?_) fun h3 => ?_
     ·refine gn rfl <| gn rfl <| gn rfl <| gn rfl <| gn rfl <| gn rfl <| gn rfl <| gn rfl <| gn rfl <| gn rfl <| vl (pk rfl) <| nl <| thn <| ?_
      refine cdt rfl ?_
      refine sq <| rg <| ?_
      refine vl (aB rfl) <| nl <| thn <| rt <| thr <| p1r (a := .bool _) rfl <| ?_
      exact .inl ⟨rfl, joinR_no fun h => h.2.2.1 (by omega), (hback _ _ hK).drop1.dropL'⟩
     ·refine gy rfl <| vl (mI rfl) <| gy rfl <| vl (mI rfl) <| gy rfl <| vl mv <| gy rfl <| vl (nc rfl) <| gy rfl <| vl (fe underlying84 rfl Ty.z35 rfl hs.1 om) <| gy rfl <| vl (ldV hK Ty.o35 rfl (hs.cell om 2 rfl)) <| gy rfl <| vl (ixn1 underlying35 Ty.s3 rfl hxf.1 rfl om) <| gy rfl <| vl (ldV hK Ty.o3 rfl hc0) <| gy rfl <| ?_
      refine cl call224 rfl (CircleBetween_c hK hat hid hn.pa0) ?_
      rintro _ w ⟨rfl, hK⟩
      refine gy rfl <| vl (ntB rfl) <| vl (pk rfl) <| nl <| thn <| ?_
      refine cdB rfl (fun h4 => ?_) fun h4 => ?_
      ·refine sq <| rg <| ?_
       refine vl (aB rfl) <| nl <| thn <| rt <| thr <| p1r (a := .bool _) rfl <| ?_
       exact .inl ⟨rfl, joinR_no fun h => by rw [h.2.2.2] at h4; simp at h4, (hback _ _ hK).drop1.dropL'⟩
      ·have h4' : btw at' id (a0 (ndAt (rgl rs) at')) = true := by simpa using h4
       refine sk <| thn <| sq <| rg <| ?_
       refine vl (mI rfl) <| vl (mI rfl) <| vl mv <| vl (nc rfl) <| vl (fe underlying84 rfl Ty.z35 rfl hs.1 om) <| vl (ldV hK Ty.o35 rfl (hs.cell om 2 rfl)) <| ?_
       refine cl call131 rfl (clone_c hK hxf om) ?_
       rintro v54 w ⟨A3, ho3, hK⟩
       replace hK : K e w G ((sb, row [v] 225) :: (A ++ (A3 ++ L))) := hback _ _ hK
       replace hK : K _ _ _ (A3 ++ ((sb, row [v] 225) :: (A ++ L))) := hK.reo
       have hpub := K.pubO hK ho3
       clear hK ho3
       obtain ⟨G1, hG1, hx54, hK⟩ := hpub
       have hO1 := ho.mono hG1
       have hX1 : (rc (id, at', v54, rs[i].2.2.2)).all Ro.one = true := allc rfl (allc rfl (allc hx54.1.one rfl))
       have hJ : ∀ (p : Nat) (b : Bool), BsR (fun x : Rn => x.1) rs id p b → joinR (rgl rs) id at' = some (rgl (rs.take p ++ (id, at', v54, rs[i].2.2.2) :: rs.drop p)) := fun p b hb => by
        rw [joinR_yes ⟨hm, hm2, by omega, h4'⟩, rgl_ins hb, ← hn.hnd]; rfl
       have hXl : ∀ p : Nat, p ≤ rs.length → (rs.take p ++ (id, at', v54, rs[i].2.2.2) :: rs.drop p).length = rs.length + 1 := fun p hp => by simp only [List.length_append, List.length_cons, List.length_take, List.length_drop]; omega
       have hXa : ∀ p : Nat, ∀ x ∈ rs.take p ++ (id, at', v54, rs[i].2.2.2) :: rs.drop p, IntS G1 x.2.2.1 x.2.2.2 := fun p x hx => by
        rcases List.mem_append.1 hx with hx | hx
        ·exact hO1.aft x (List.mem_of_mem_take hx)
        ·rcases List.mem_cons.1 hx with rfl | hx
         ·exact hx54
         ·exact hO1.aft x (List.mem_of_mem_drop hx)
       refine vl (bd [(0, _), (1, _), (2, _)] Ty.p84 Ty.i84 rfl ⟨⟨rfl, rfl⟩, ⟨rfl, rfl⟩, ⟨rfl, one_cells (SlW.one hx54.1)⟩, trivial⟩ rfl) <| ?_
       refine al hK Ty.i84 rfl ?_
       intro b8 w hK
       refine soS hK Ty.i84 0 rfl rfl rfl rfl hX1 rfl ?_
       intro w hK
       refine nl <| thn <| sq <| rg <| vl mv <| vl (nc rfl) <| vl (fa underlying225 rfl Ty.z32 rfl) <| vl (ldO hK Ty.o32 1 rfl rfl rfl) <| vl (mI rfl) <| ?_
       replace hK : K e w G1 ((b8, row (rc (id, at', v54, rs[i].2.2.2)) 84) :: (sb, row [v] 225) :: (A ++ L)) := hK
       have hK1 : K e w G1 ((sb, row [v] 225) :: (A ++ ((b8, row (rc (id, at', v54, rs[i].2.2.2)) 84) :: L))) := hK.reo
       have hall := hO1.all hK1
       clear hK hK1
       obtain ⟨Gf2, hGf2, hR2, hsb2, hK, hback2⟩ := hall
       refine cl call260 rfl (bsearchN_c (cap := []) (key := fun x : Rn => x.1) call261 hK hR2.sl om hpw (fun x hx w hK => join1_c hK (hpt x hx) (hR2.aft x hx).1.one hid)) ?_
       rintro _ w ⟨⟨p, b, rfl, hbs⟩, hK⟩
       replace hK : K e w G1 ((sb, row [v] 225) :: (A ++ ((b8, row (rc (id, at', v54, rs[i].2.2.2)) 84) :: L))) := hback2 _ _ hK
       replace hK : K _ _ _ ((b8, row (rc (id, at', v54, rs[i].2.2.2)) 84) :: (sb, row [v] 225) :: (A ++ L)) := hK.reo
       refine vl mv <| vl (ext rfl rfl) <| vl (ext rfl rfl) <| vl (aI rfl) <| vl (aB rfl) <| nl <| thn <| sq <| ?_
       refine rgs (fun w => K e w G1 ((b8, row (rc (id, at', v54, rs[i].2.2.2)) 84) :: L)) (fun w => K _ w _ _) [U,U,U,U,U,U,U,U,U,U,U,U] 12 Ty.mixed rfl rfl (hK.drawn _) ?_
       intro w hK
       have hS : (fun w => K e w G1 ((b8, row (rc (id, at', v54, rs[i].2.2.2)) 84) :: L)) w := K.sl hK
       refine xt (i := 0) rfl kr rfl rfl (fun w hK => mv) hS <| xt (i := 1) rfl kr rfl rfl (fun w hK => mv) hS <| xt (i := 2) rfl kr rfl rfl (fun w hK => (nc rfl)) hS <| xt (i := 3) rfl kr rfl rfl (fun w hK => (fa underlying225 rfl Ty.z32 rfl)) hS <| xt (i := 5) rfl kr rfl rfl (fun w hK => (mI rfl)) hS <| xt (i := 6) rfl kr rfl rfl (fun w hK => (lsO hK Ty.a84 Ty.s84 0 rfl rfl rfl)) hS <| ?_
       refine xe2 (i := 4) (j := 7) kr rfl rfl rfl rfl ?_ ?_
       ·refine vl (ldO hK Ty.o32 1 rfl rfl rfl) <| ?_
        refine xnk (K.sl hK) fun hS => ?_
        refine xe (i := 7) kr rfl rfl ?_
        refine bsS1 hK underlying32 Ty.i84 rfl rfl rfl rfl rfl rfl ?_
        intro b72 w hK
        refine xnk (K.sl hK) fun hS => ?_
        refine xe (i := 8) kr rfl rfl ?_
        replace hK : K e w G1 ((b72, row (rc (id, at', v54, rs[i].2.2.2)) 84) :: (b8, row (rc (id, at', v54, rs[i].2.2.2)) 84) :: (sb, row [v] 225) :: (A ++ L)) := hK
        replace hK : K _ _ _ ((b72, row (rc (id, at', v54, rs[i].2.2.2)) 84) :: (A ++ ((b8, row (rc (id, at', v54, rs[i].2.2.2)) 84) :: (sb, row [v] 225) :: L))) := hK.reo
        refine cl call262 rfl (insertN_c (x := (id, at', v54, rs[i].2.2.2)) hK (.inl ho.os) hX1 (fun y hy => allc rfl (allc rfl (allc (hO1.aft y hy).1.one rfl))) hbs.1 om) ?_
        rintro v73 w ⟨A2, ho2, hK⟩
        replace hK : K _ _ _ ((b8, row (rc (id, at', v54, rs[i].2.2.2)) 84) :: (sb, row [v] 225) :: (A2 ++ L)) := hK.reo
        refine xnk (K.sl hK) fun hS => ?_
        refine xt (i := 9) rfl kr rfl rfl (fun w hK => (nc rfl)) hS <| xt (i := 10) rfl kr rfl rfl (fun w hK => (fa underlying225 rfl Ty.z32 rfl)) hS <| ?_
        refine xe (i := 11) kr rfl rfl ?_
        refine so hK Ty.i32 rfl 1 rfl rfl rfl ho2.one rfl ?_
        intro w hK
        refine xnk (K.sl hK) fun hS => ?_
        refine xd kr <| thn <| sq <| rg <| vl (aB rfl) <| nl <| thn <| rt <| p1r (a := .bool _) rfl <| ?_
        exact .inr ⟨G1, v73, rs.take p ++ (id, at', v54, rs[i].2.2.2) :: rs.drop p, A2, rfl, hJ p _ hbs, hG1, ⟨by rw [hXl p hbs.1]; exact ho2, hXa p⟩, hK.drop1⟩
       ·refine bsS1 hK underlying32 Ty.i84 rfl rfl rfl rfl rfl rfl ?_
        intro b72 w hK
        refine xnk (K.sl hK) fun hS => ?_
        refine xe (i := 4) kr rfl rfl ?_
        refine vl (ldO hK Ty.o32 2 rfl rfl rfl) <| ?_
        refine xnk (K.sl hK) fun hS => ?_
        refine xe (i := 8) kr rfl rfl ?_
        replace hK : K e w G1 ((b72, row (rc (id, at', v54, rs[i].2.2.2)) 84) :: (b8, row (rc (id, at', v54, rs[i].2.2.2)) 84) :: (sb, row [v] 225) :: (A ++ L)) := hK
        replace hK : K _ _ _ ((b72, row (rc (id, at', v54, rs[i].2.2.2)) 84) :: (A ++ ((b8, row (rc (id, at', v54, rs[i].2.2.2)) 84) :: (sb, row [v] 225) :: L))) := hK.reo
        refine cl call262 rfl (insertN_c (x := (id, at', v54, rs[i].2.2.2)) hK (.inl ho.os) hX1 (fun y hy => allc rfl (allc rfl (allc (hO1.aft y hy).1.one rfl))) hbs.1 om) ?_
        rintro v73 w ⟨A2, ho2, hK⟩
        replace hK : K _ _ _ ((b8, row (rc (id, at', v54, rs[i].2.2.2)) 84) :: (sb, row [v] 225) :: (A2 ++ L)) := hK.reo
        refine xnk (K.sl hK) fun hS => ?_
        refine xt (i := 9) rfl kr rfl rfl (fun w hK => (nc rfl)) hS <| xt (i := 10) rfl kr rfl rfl (fun w hK => (fa underlying225 rfl Ty.z32 rfl)) hS <| ?_
        refine xe (i := 11) kr rfl rfl ?_
        refine so hK Ty.i32 rfl 1 rfl rfl rfl ho2.one rfl ?_
        intro w hK
        refine xnk (K.sl hK) fun hS => ?_
        refine xd kr <| thn <| sq <| rg <| vl (aB rfl) <| nl <| thn <| rt <| p1r (a := .bool _) rfl <| ?_
        exact .inr ⟨G1, v73, rs.take p ++ (id, at', v54, rs[i].2.2.2) :: rs.drop p, A2, rfl, hJ p _ hbs, hG1, ⟨by rw [hXl p hbs.1]; exact ho2, hXa p⟩, hK.drop1⟩
 ·skip
  refine cl call162 rfl (nodeAt_no hK hR hm2) ?_
  rintro _ w ⟨rfl, hK⟩
  refine vl asg <| nl <| thn <| sq <| sq <| rg <| vl mv <| vl (nc rfl) <| vl (fa underlying225 rfl Ty.z32 rfl) <| vl (ldV hK Ty.o32 rfl hsb) <| vl (mI rfl) <| ?_
  by_cases hm : id ∈ ids (rgl rs)
  ·obtain ⟨j, hn1⟩ := NdA.of' hR hsf hm
   refine cl call162 rfl (nodeAt_in hK hR hn1) ?_
   rintro _ w ⟨rfl, hK⟩
   refine vl (nePn underlying167 rfl rfl) <| vl (mB rfl) <| ?_
   refine spl (t := 24) rfl (fun h1 => ?_) fun h1 => ?_
   ·refine gn rfl <| gn rfl <| vl (pk rfl) <| vl (mB rfl) <| gn rfl <| gn rfl <| gn rfl <| gn rfl <| gn rfl <| gn rfl <| vl (pk rfl) <| vl (mB rfl) <| gn rfl <| gn rfl <| gn rfl <| gn rfl <| gn rfl <| gn rfl <| gn rfl <| gn rfl <| gn rfl <| gn rfl <| vl (pk rfl) <| nl <| thn <| ?_
    refine cdt rfl ?_
    refine sq <| rg <| ?_
    refine vl (aB rfl) <| nl <| thn <| rt <| thr <| p1r (a := .bool _) rfl <| ?_
    exact .inl ⟨rfl, joinR_no fun h => h.1 hm, (hback _ _ hK).drop1.dropL'⟩
   ·cases h1
  ·skip
   refine cl call162 rfl (nodeAt_no hK hR hm) ?_
   rintro _ w ⟨rfl, hK⟩
   refine vl (nePn underlying167 rfl rfl) <| vl (mB rfl) <| ?_
   refine spl (t := 24) rfl (fun h1 => ?_) fun h1 => ?_
   ·cases h1
   ·refine gy rfl <| vl mv <| gy rfl <| vl (eqPn underlying167 rfl rfl) <| vl (pk rfl) <| vl (mB rfl) <| ?_
    refine spl (t := 28) rfl (fun h2 => ?_) fun h2 => ?_
    ·refine gn rfl <| gn rfl <| gn rfl <| gn rfl <| gn rfl <| gn rfl <| vl (pk rfl) <| vl (mB rfl) <| gn rfl <| gn rfl <| gn rfl <| gn rfl <| gn rfl <| gn rfl <| gn rfl <| gn rfl <| gn rfl <| gn rfl <| vl (pk rfl) <| nl <| thn <| ?_
     refine cdt rfl ?_
     refine sq <| rg <| ?_
     refine vl (aB rfl) <| nl <| thn <| rt <| thr <| p1r (a := .bool _) rfl <| ?_
     exact .inl ⟨rfl, joinR_no fun h => hm2 h.2.1, (hback _ _ hK).drop1.dropL'⟩
    ·cases h2
end
end Go.Proofs.YtbiihblpgfgaoabGreatDoor
