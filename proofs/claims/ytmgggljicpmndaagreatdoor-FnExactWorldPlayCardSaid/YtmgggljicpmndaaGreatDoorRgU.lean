/- Rings in slices. Owned rings, shown and taken back. Conditions: those that each row states. -/
import Derived.Test.YtmgggljicpmndaaGreatDoorRgT
import Derived.Test.YtmgggljicpmndaaGreatDoorLs
import Derived.Test.YtmgggljicpmndaaGreatDoorSnM
namespace Go.Ro
open Go
abbrev Rn := Int × Int × Value × List Int
def rc (x : Rn) : List Value := [.int .i64 x.1, .int .i64 x.2.1, x.2.2.1]
def nd (x : Rn) : Nd := (x.1, x.2.1, x.2.2.2)
def rgl (rs : List Rn) : List Nd := rs.map nd
structure RngS (G : View) (v : Value) (rs : List Rn) : Prop where
  sl : SlR 3 (EF rc) G v rs
  aft : ∀ x ∈ rs, IntS G x.2.2.1 x.2.2.2
theorem RngS.mono {G G' : View} {v : Value} {rs : List Rn} (h : RngS G v rs) (hG : VLe G G') : RngS G' v rs := ⟨EF.mono h.sl hG, fun x hx => (h.aft x hx).mono hG⟩
theorem RngS.at {G : View} {v : Value} {rs : List Rn} (h : RngS G v rs) {i : Nat} (hi : i < rs.length) : IntS G rs[i].2.2.1 rs[i].2.2.2 := h.aft _ (List.getElem_mem hi)
theorem rg_len (rs : List Rn) : (rgl rs).length = rs.length := by unfold rgl; simp
theorem rg_get {rs : List Rn} {i : Nat} (hi : i < rs.length) : (rgl rs)[i]'(by rw [rg_len]; exact hi) = nd rs[i] := by unfold rgl; simp
theorem mem_rg {rs : List Rn} {i : Nat} (hi : i < rs.length) : nd rs[i] ∈ rgl rs := List.mem_map.2 ⟨_, List.getElem_mem hi, rfl⟩
theorem ids_rg (rs : List Rn) : ids (rgl rs) = rs.map (·.1) := by unfold ids rgl; simp [nd]
def RgTo (rs : List Rn) (i : Nat) : Prop := (∀ x ∈ rs.take i, NdOk (nd x)) ∧ (rs.take i).Pairwise (fun a b => (fun x : Rn => x.1) a < (fun x : Rn => x.1) b)
theorem RgTo.zero {rs : List Rn} : RgTo rs 0 := ⟨by simp, by simp⟩
theorem RgTo.snoc {rs : List Rn} {i : Nat} (hi : i < rs.length) (h : RgTo rs i) (hx : NdOk (nd rs[i])) (hl : ∀ _ : 0 < i, rs[i - 1].1 < rs[i].1) : RgTo rs (i + 1) :=
  ⟨all_snoc hi h.1 hx, pw_snoc (key := fun x : Rn => x.1) hi h.2 hl⟩
theorem rgOk_iff {rs : List Rn} : RgOk (rgl rs) ↔ rs.length ≤ 10 ∧ RgTo rs rs.length := by
  unfold RgOk RgTo
  rw [rg_len, List.take_length]
  refine and_congr Iff.rfl (and_congr ?_ ?_)
  · constructor
    · intro h x hx; exact h _ (List.mem_map.2 ⟨x, hx, rfl⟩)
    · intro h x hx; obtain ⟨y, hy, rfl⟩ := List.mem_map.1 hx; exact h y hy
  · unfold rgl; rw [List.pairwise_map]; rfl
theorem rgOk_at {rs : List Rn} (h : RgOk (rgl rs)) {i : Nat} (hi : i < rs.length) : NdOk (nd rs[i]) := h.2.1 _ (mem_rg hi)
theorem rgOk_lt {rs : List Rn} (h : RgOk (rgl rs)) {i : Nat} (hi : i < rs.length) (h0 : 0 < i) : rs[i - 1].1 < rs[i].1 := by
  have := (rgOk_iff.1 h).2.2
  rw [List.take_length] at this
  exact pw_at (key := fun x : Rn => x.1) this hi h0
theorem fx_rg {rs : List Rn} {id : Int} {i : Nat} (hi : i < rs.length) (h1 : ∀ x ∈ rs.take i, x.1 ≠ id) (h2 : rs[i].1 = id) : fx (rgl rs) id = i := by
  refine fx_eq (by rw [rg_len]; exact hi) (fun x hx => ?_) (by rw [rg_get hi]; exact h2)
  unfold rgl at hx
  rw [← List.map_take] at hx
  obtain ⟨y, hy, rfl⟩ := List.mem_map.1 hx
  exact h1 y hy
theorem not_ids_rg {rs : List Rn} {id : Int} (h : ∀ x ∈ rs, x.1 ≠ id) : id ∉ ids (rgl rs) := by
  rw [ids_rg]; intro hx; obtain ⟨x, h1, h2⟩ := List.mem_map.1 hx; exact h x h1 h2
theorem in_ids_rg {rs : List Rn} {i : Nat} (hi : i < rs.length) : rs[i].1 ∈ ids (rgl rs) := by
  rw [ids_rg]; exact List.mem_map.2 ⟨_, List.getElem_mem hi, rfl⟩
theorem fx_rlt {rs : List Rn} {id : Int} (h : id ∈ ids (rgl rs)) : fx (rgl rs) id < rs.length := by have := fx_lt h; rwa [rg_len] at this
theorem ndAt_rg {rs : List Rn} {id : Int} (h : id ∈ ids (rgl rs)) : nd (rs[fx (rgl rs) id]'(fx_rlt h)) = ndAt (rgl rs) id := by
  rw [← ndAt_eq h, rg_get (fx_rlt h)]
theorem rat_id {rs : List Rn} {id : Int} (h : id ∈ ids (rgl rs)) : (rs[fx (rgl rs) id]'(fx_rlt h)).1 = id := by
  have := ndAt_id h; rw [← ndAt_rg h] at this; exact this
def fI (r : List Nd) (id : Int) : Int := if id ∈ ids r then (fx r id : Int) else -1
theorem fI_in {r : List Nd} {id : Int} (h : id ∈ ids r) : fI r id = (fx r id : Int) := if_pos h
theorem fI_no {r : List Nd} {id : Int} (h : id ∉ ids r) : fI r id = -1 := if_neg h
theorem fI_ge {r : List Nd} {id : Int} : 0 ≤ fI r id ↔ id ∈ ids r := by
  by_cases h : id ∈ ids r
  · rw [fI_in h]; simp [h]
  · rw [fI_no h]; simp [h]
theorem skips_snoc (a : Int) (l : List Int) (b x : Int) : skips a (l ++ [b]) x = (skips a l x || btw (l.getLastD a) x b) := by
  induction l generalizing a with
  | nil => simp [skips]
  | cons c l ih => simp [skips, ih, Bool.or_assoc, List.getLastD]; cases l <;> rfl
theorem skips_app (a : Int) (l m : List Int) (x : Int) : skips a (l ++ m) x = (skips a l x || skips (l.getLastD a) m x) := by
  induction l generalizing a with
  | nil => simp [skips]
  | cons c l ih => simp [skips, ih, Bool.or_assoc, List.getLastD]; cases l <;> rfl
def ski (rs : List Rn) (k : Int) : Bool := rs.any fun x => skn (nd x) k
def prTo (rs : List Rn) (i : Nat) : List Int := ((rs.take i).map (·.1)).filter fun k => !ski rs k
theorem ski_rg (rs : List Rn) (k : Int) : ((rgl rs).any fun n => skn n k) = ski rs k := by unfold rgl ski; rw [List.any_map]; rfl
theorem prTo_all (rs : List Rn) : prTo rs rs.length = prin (rgl rs) := by
  unfold prTo prin; rw [List.take_length, ids_rg]; congr 1; funext k; rw [ski_rg]
theorem prTo_zero (rs : List Rn) : prTo rs 0 = [] := by simp [prTo]
theorem prTo_no {rs : List Rn} {i : Nat} (hi : i < rs.length) (h : ski rs rs[i].1 = true) : prTo rs (i + 1) = prTo rs i := by
  unfold prTo; rw [List.take_succ_eq_append_getElem hi, List.map_append, List.filter_append]; simp [h]
theorem prTo_yes {rs : List Rn} {i : Nat} (hi : i < rs.length) (h : ski rs rs[i].1 = false) : prTo rs (i + 1) = prTo rs i ++ [rs[i].1] := by
  unfold prTo; rw [List.take_succ_eq_append_getElem hi, List.map_append, List.filter_append]; simp [h]
theorem prTo_len (rs : List Rn) (i : Nat) : (prTo rs i).length ≤ rs.length := by
  unfold prTo; refine Nat.le_trans (List.length_filter_le _ _) ?_; simp; omega
theorem any_take {α : Type} {p : α → Bool} {xs : List α} {i : Nat} (hi : i < xs.length) : (xs.take (i + 1)).any p = ((xs.take i).any p || p xs[i]) := by
  rw [List.take_succ_eq_append_getElem hi, List.any_append]; simp
theorem rgSafe_iff {rs : List Rn} : RgSafe (rgl rs) ↔ RgOk (rgl rs) ∧ (∀ x ∈ rs, ∃ k ∈ x.2.2.2, k ∈ ids (rgl rs)) ∧ 3 ≤ (prin (rgl rs)).length := by
  unfold RgSafe
  refine and_congr Iff.rfl (and_congr ⟨fun h x hx => h _ (List.mem_map.2 ⟨x, hx, rfl⟩), fun h x hx => ?_⟩ Iff.rfl)
  obtain ⟨y, hy, rfl⟩ := List.mem_map.1 hx; exact h y hy
theorem last_take {α : Type} {xs : List α} {i : Nat} (hi : i < xs.length) (a : α) : xs[i] = (xs.take (i + 1)).getLastD a := by
  rw [List.take_succ_eq_append_getElem hi, List.getLastD_eq_getLast?, List.getLast?_concat]; rfl
def NdG (rs : List Rn) (i : Nat) (x : Rn) : Prop := Pt x.1 ∧ (∀ _ : 0 < i, ∀ h : i - 1 < rs.length, rs[i - 1].1 < x.1) ∧ (x.2.1 = -1 ∨ Pt x.2.1) ∧ x.2.2.2.length = 2
theorem NdG.of {rs : List Rn} (h : RgOk (rgl rs)) {i : Nat} (hi : i < rs.length) : NdG rs i rs[i] :=
  have g := rgOk_at h hi
  ⟨g.1, fun h0 _ => rgOk_lt h hi h0, g.2.1, g.2.2.1⟩
def nAt (v : Value) (r : List Nd) (k : Int) : Option Addr := if k ∈ ids r then some (elA v (fx r k * 3)) else none
theorem nAt_in {v : Value} {r : List Nd} {k : Int} (h : k ∈ ids r) : nAt v r k = some (elA v (fx r k * 3)) := if_pos h
theorem nAt_no {v : Value} {r : List Nd} {k : Int} (h : k ∉ ids r) : nAt v r k = none := if_neg h
theorem nAt_some {v : Value} {r : List Nd} {k : Int} : (nAt v r k).isSome = true ↔ k ∈ ids r := by
  by_cases h : k ∈ ids r
  · rw [nAt_in h]; simp [h]
  · rw [nAt_no h]; simp [h]
def NdH (rs : List Rn) (i : Nat) (x : Rn) : Prop := Pt x.1 ∧ (∀ _ : 0 < i, ∀ h : i - 1 < rs.length, rs[i - 1].1 < x.1) ∧ (x.2.1 = -1 ∨ Pt x.2.1)
theorem NdH.of {rs : List Rn} (h : RgOk (rgl rs)) {i : Nat} (hi : i < rs.length) : NdH rs i rs[i] :=
  have g := rgOk_at h hi
  ⟨g.1, fun h0 _ => rgOk_lt h hi h0, g.2.1⟩
abbrev Ron := Int × Int × Value × List Int × Own
def toR (o : Ron) : Rn := (o.1, o.2.1, o.2.2.1, o.2.2.2.1)
def uso (os : List Ron) : List (Value × List Int × Own) := os.map fun o => o.2.2
def toRs (os : List Ron) : List Rn := os.map toR
theorem toRs_len (os : List Ron) : (toRs os).length = os.length := by simp [toRs]
theorem toRs_snoc (os : List Ron) (o : Ron) : toRs (os ++ [o]) = toRs os ++ [toR o] := by simp [toRs]
theorem uso_snoc (os : List Ron) (o : Ron) : uso (os ++ [o]) = uso os ++ [o.2.2] := by simp [uso]
theorem rgl_snoc (rs : List Rn) (x : Rn) : rgl (rs ++ [x]) = rgl rs ++ [nd x] := by simp [rgl]
theorem rgl_take_succ {rs : List Rn} {i : Nat} (hi : i < rs.length) : rgl (rs.take (i + 1)) = rgl (rs.take i) ++ [nd rs[i]] := by
  rw [List.take_succ_eq_append_getElem hi, rgl_snoc]
theorem rc_len (x : Rn) : (rc x).length = 3 := rfl
theorem K.pubIn {e w : World} {G : View} {L A : Own} {t : Nat} {os : List Ron} (hus : OSS t (uso os)) (hK : K e w G (A ++ (flat (uso os) ++ L))) :
    ∃ G', VLe G G' ∧ (∀ x ∈ toRs os, IntS G' x.2.2.1 x.2.2.2) ∧ K e w G' (A ++ L) := by
  obtain ⟨G', h1, h2, h3⟩ := K.pubF (L := A ++ L) (uso os) hus (K.mid hK)
  refine ⟨G', h1, fun x hx => ?_, h3⟩
  obtain ⟨o, ho, rfl⟩ := List.mem_map.1 hx
  exact h2 _ (List.mem_map.2 ⟨o, ho, rfl⟩)
theorem K.pubR {e w : World} {G : View} {L A : Own} {t : Nat} {v : Value} {rs : List Rn} (haf : ∀ x ∈ rs, IntS G x.2.2.1 x.2.2.2) (ho : OS 3 t v rs.length (rs.flatMap rc) A) (hK : K e w G (A ++ L)) :
    ∃ G', VLe G G' ∧ RngS G' v rs ∧ K e w G' L := by
  obtain ⟨G', h1, h2, h3⟩ := K.pubE (c := rc) rc_len hK ho
  exact ⟨G', h1, ⟨h2, fun x hx => (haf x hx).mono h1⟩, h3⟩
theorem rgl_set (rs : List Rn) (i : Nat) (x : Rn) : rgl (rs.set i x) = (rgl rs).set i (nd x) := by unfold rgl; rw [List.map_set]
theorem K.dropX {e w : World} {G : View} {x : Nat × Obj} {A L : Own} (hK : K e w G (A ++ (x :: L))) : K e w G (A ++ L) := (K.mid (A := A) (B := [x]) hK).drop1
theorem K.swap2 {e w : World} {G : View} {A B L : Own} (hK : K e w G (A ++ (B ++ L))) : K e w G (B ++ (A ++ L)) := K.mid hK
def RgA (G : View) (r : Value) (o : List Nd × Bool) : Prop := ∃ v rs, r = .tuple #[v, .bool o.2] ∧ RngS G v rs ∧ rgl rs = o.1
theorem RgA.mk {G : View} {v : Value} {rs : List Rn} {b : Bool} {x : List Nd} (h : RngS G v rs) (hr : rgl rs = x) : RgA G (.tuple #[v, .bool b]) (x, b) := ⟨v, rs, rfl, h, hr⟩
def ot (r : List Nd) (o : Option (List Nd)) : List Nd × Bool := match o with | some x => (x, true) | none => (r, false)
theorem tk_ot {r : List Nd} {ok : Prop} {o : Option (List Nd)} (h : RgSafe r ∧ ok) : tk r ok o = ot r o := by
  unfold tk ot; rw [if_pos (dec_t h)]; cases o <;> rfl
theorem at_ix {rs : List Rn} {id : Int} (h : id ∈ ids (rgl rs)) : ∃ i, ∃ hi : i < rs.length, fx (rgl rs) id = i ∧ nd rs[i] = ndAt (rgl rs) id ∧ rs[i].1 = id :=
  ⟨_, fx_rlt h, rfl, ndAt_rg h, rat_id h⟩
theorem a0_of {x : Rn} (h : 0 < x.2.2.2.length) : x.2.2.2[0] = a0 (nd x) := by
  unfold a0 nd; rw [List.getD_eq_getElem?_getD, List.getElem?_eq_getElem h]; rfl
theorem a1_of {x : Rn} (h : 1 < x.2.2.2.length) : x.2.2.2[1] = a1 (nd x) := by
  unfold a1 nd; rw [List.getD_eq_getElem?_getD, List.getElem?_eq_getElem h]; rfl
structure NdA (G : View) (rs : List Rn) (id : Int) (i : Nat) : Prop where
  lt : i < rs.length
  hfx : fx (rgl rs) id = i
  mem : id ∈ ids (rgl rs)
  hnd : nd (rs[i]'lt) = ndAt (rgl rs) id
  hid : (rs[i]'lt).1 = id
  aft : IntS G (rs[i]'lt).2.2.1 (rs[i]'lt).2.2.2
  len : (rs[i]'lt).2.2.2.length = 2
  ha0 : (rs[i]'lt).2.2.2[0]'(by omega) = a0 (ndAt (rgl rs) id)
  ha1 : (rs[i]'lt).2.2.2[1]'(by omega) = a1 (ndAt (rgl rs) id)
  bef : (rs[i]'lt).2.1 = (ndAt (rgl rs) id).2.1
  pa0 : Pt (a0 (ndAt (rgl rs) id))
  pa1 : Pt (a1 (ndAt (rgl rs) id))
  pid : Pt id
theorem NdA.of {G : View} {v : Value} {rs : List Rn} {id : Int} (hv : RngS G v rs) (hok : RgOk (rgl rs)) (h : id ∈ ids (rgl rs)) : ∃ i, NdA G rs id i := by
  obtain ⟨i, hi, h1, h2, h3⟩ := at_ix h
  have h4 := rgOk_at hok hi
  have h5 : rs[i].2.2.2.length = 2 := h4.2.2.1
  refine ⟨i, hi, h1, h, h2, h3, hv.at hi, h5, by rw [a0_of (by omega), h2], by rw [a1_of (by omega), h2], by rw [← h2]; rfl, ?_, ?_, hok.ptId h⟩
  · rw [← h2]; exact NdOk.a0 h4
  · rw [← h2]; exact NdOk.a1 h4
theorem K.swp {e w : World} {G : View} {x y : Nat × Obj} {L : Own} (hK : K e w G (x :: y :: L)) : K e w G (y :: x :: L) := K.mid (A := [x]) (B := [y]) hK
theorem RngS.lit {G : View} {p : Option Addr} : RngS G (.slice p 0 0) [] := ⟨⟨⟨p, 0, rfl, Nat.le_refl _, Nat.zero_le _, .inl rfl⟩, fun i x h => by simp at h⟩, fun _ h => by cases h⟩
section
variable {e w : World} {G : View} {L A : Own} {P : Program} {n : Nat} {Q : Po} {f : Sl} {ops : Array Oper} {rest : List Oper} {d : Nat} {pos : String} {af : Array Edge}
theorem rc_one {x : Rn} (h : one x.2.2.1 = true) : (rc x).all one = true := allc rfl (allc rfl (allc h rfl))
theorem RngS.one {v : Value} {rs : List Rn} (h : RngS G v rs) : ∀ x ∈ rs, (rc x).all one = true := fun x hx => rc_one (h.aft x hx).1.one
theorem apR {T E' ty' by' : Nat} {z : Value} {v u : Value} {x y : Operand} {xs ys : List Rn} (hK : K e w G (A ++ L)) (hT : P.underlying T = some (.slice E')) (hi : Inf P E' z 3 by') (hz : z.cells.size = 3) (hby : Nat.ble by' 1000 = true)
    (hx : ev n f x = v) (ho : OS 3 E' v xs.length (xs.flatMap rc) A) (hy : ev n f y = u) (hu : SlR 3 (EF rc) G u ys) (hone : ∀ k ∈ ys, (rc k).all one = true) (hmk : xs.length + ys.length ≤ 1000000000)
    (h : ∀ v' A' w1, OS 3 E' v' (xs ++ ys).length ((xs ++ ys).flatMap rc) A' → K e w1 G (A' ++ L) → WL P n ops Q rest (upd f d v') w1) :
    WL P n ops Q (⟨some d, .call ⟨.builtin .append, #[x, y], #[T, T]⟩, ty', pos, af, none⟩ :: rest) f w :=
  ap (news := ys.flatMap rc) hK hT hi hz hby hx ho hy hu.1 (flat_len rc_len ys) (fun _ _ hj => hK.cell (hu.cells rc_len (by omega) hj))
    (fun u hu => by obtain ⟨k, hk1, hk⟩ := List.mem_flatMap.1 hu; exact List.all_eq_true.1 (hone k hk1) u hk) hmk
    (fun v' A' w1 h2 h3 => h v' A' w1 (by rw [List.length_append, List.flatMap_append]; exact h2) h3)
theorem apR1 {T E' E2 ty' b2 by' : Nat} {z : Value} {v : Value} {x y : Operand} {xs : List Rn} {k : Rn} (hone : (rc k).all one = true) (hK : K e w G ((b2, row (rc k) E2) :: (A ++ L))) (hT : P.underlying T = some (.slice E')) (hi : Inf P E' z 3 by') (hz : z.cells.size = 3) (hby : Nat.ble by' 1000 = true)
    (hx : ev n f x = v) (ho : OS 3 E' v xs.length (xs.flatMap rc) A) (hy : ev n f y = .slice (some ⟨b2, 0, none⟩) 1 1) (hmk : xs.length + 1 ≤ 1000000000)
    (h : ∀ v' A' w1, OS 3 E' v' (xs ++ [k]).length ((xs ++ [k]).flatMap rc) A' → K e w1 G (A' ++ L) → WL P n ops Q rest (upd f d v') w1) :
    WL P n ops Q (⟨some d, .call ⟨.builtin .append, #[x, y], #[T, T]⟩, ty', pos, af, none⟩ :: rest) f w := apE1 rc_len hone hK hT hi hz hby hx ho hy hmk h
end
theorem filter_ne {r : List Nd} {id : Int} {i : Nat} (hp : (ids r).Pairwise (· < ·)) (hi : i < r.length) (h : r[i].1 = id) : r.filter (fun x => decide (x.1 ≠ id)) = r.take i ++ r.drop (i + 1) := by
  have h0 : r = r.take i ++ r[i] :: r.drop (i + 1) := by rw [← List.drop_eq_getElem_cons hi, List.take_append_drop]
  have hq : r.Pairwise (fun a b => a.1 < b.1) := List.pairwise_map.1 hp
  rw [h0, List.pairwise_append, List.pairwise_cons] at hq
  conv => lhs; rw [h0]
  rw [List.filter_append, List.filter_cons, if_neg (by simpa using h)]
  congr 1
  · rw [List.filter_eq_self]
    intro x hx
    have := hq.2.2 x hx r[i] (List.mem_cons_self ..)
    simp only [decide_eq_true_eq]; omega
  · rw [List.filter_eq_self]
    intro x hx
    have := hq.2.1.1 x hx
    simp only [decide_eq_true_eq]; omega
theorem RgOk.sub {r r' : List Nd} (h : RgOk r) (hs : r'.Sublist r) : RgOk r' :=
  ⟨Nat.le_trans hs.length_le h.1, fun x hx => h.2.1 x (hs.subset hx), h.2.2.sublist hs⟩
theorem rgl_app (a b : List Rn) : rgl (a ++ b) = rgl a ++ rgl b := by simp [rgl]
theorem rgl_tk (a : List Rn) (i : Nat) : rgl (a.take i) = (rgl a).take i := by simp [rgl]
theorem rgl_dp (a : List Rn) (i : Nat) : rgl (a.drop i) = (rgl a).drop i := by simp [rgl]
theorem NdA.filter {G : View} {rs : List Rn} {id : Int} {i : Nat} (h : NdA G rs id i) (hok : RgOk (rgl rs)) : (rgl rs).filter (fun x => decide (x.1 ≠ id)) = rgl (rs.take i ++ rs.drop (i + 1)) := by
  rw [rgl_app, rgl_tk, rgl_dp]
  exact filter_ne hok.pw (by rw [rg_len]; exact h.lt) (by rw [rg_get h.lt]; exact h.hid)
theorem tw_eq {rs : List Rn} {id : Int} {m : Nat} (_ : m ≤ rs.length) (hlt : ∀ x ∈ rs.take m, x.1 < id) (hge : ∀ h : m < rs.length, ¬ rs[m].1 < id) :
    (rgl rs).takeWhile (fun x => decide (x.1 < id)) = rgl (rs.take m) ∧ (rgl rs).dropWhile (fun x => decide (x.1 < id)) = rgl (rs.drop m) := by
  have h0 : rgl rs = rgl (rs.take m) ++ rgl (rs.drop m) := by rw [← rgl_app, List.take_append_drop]
  have h1 : ∀ x ∈ rgl (rs.take m), decide (x.1 < id) = true := fun x hx => by
    obtain ⟨y, hy, rfl⟩ := List.mem_map.1 hx; exact decide_eq_true (hlt y hy)
  have h2 : (rgl (rs.drop m)).takeWhile (fun x => decide (x.1 < id)) = [] ∧ (rgl (rs.drop m)).dropWhile (fun x => decide (x.1 < id)) = rgl (rs.drop m) := by
    rcases Nat.lt_or_ge m rs.length with h | h
    · rw [List.drop_eq_getElem_cons h]
      have : decide ((nd rs[m]).1 < id) = false := decide_eq_false (hge h)
      simp only [rgl, List.map_cons]
      rw [List.takeWhile_cons_of_neg (by rw [this]; simp), List.dropWhile_cons_of_neg (by rw [this]; simp)]
      exact ⟨rfl, rfl⟩
    · rw [List.drop_eq_nil_of_le h]; exact ⟨rfl, rfl⟩
  rw [h0, List.takeWhile_append_of_pos h1, List.dropWhile_append_of_pos h1, h2.1, h2.2, List.append_nil]
  exact ⟨rfl, rfl⟩
theorem RgA.to {G : View} {v : Value} {rs : List Rn} {b : Bool} {x : List Nd} {o : List Nd × Bool} (ho : o = (x, b)) (h : RngS G v rs) (hr : rgl rs = x) : RgA G (.tuple #[v, .bool b]) o := by
  rw [ho]; exact RgA.mk h hr
structure OR (G : View) (t : Nat) (v : Value) (rs : List Rn) (A : Own) : Prop where
  os : OS 3 t v rs.length (rs.flatMap rc) A
  aft : ∀ x ∈ rs, IntS G x.2.2.1 x.2.2.2
theorem OR.mono {G G' : View} {t : Nat} {v : Value} {rs : List Rn} {A : Own} (h : OR G t v rs A) (hG : VLe G G') : OR G' t v rs A := ⟨h.os, fun x hx => (h.aft x hx).mono hG⟩
theorem OR.fr {e w : World} {G : View} {L A : Own} {t : Nat} {v : Value} {rs : List Rn} (h : OR G t v rs A) (hK : K e w G (A ++ L)) : RngS (addV G A) v rs :=
  ⟨OS.ef rc_len h.os, fun x hx => (h.aft x hx).mono hK.addV_le⟩
theorem OR.pub {e w : World} {G : View} {L A : Own} {t : Nat} {v : Value} {rs : List Rn} (h : OR G t v rs A) (hK : K e w G (A ++ L)) : ∃ G', VLe G G' ∧ RngS G' v rs ∧ K e w G' L := K.pubR h.aft h.os hK
theorem OR.at {G : View} {t : Nat} {v : Value} {rs : List Rn} {A : Own} (h : OR G t v rs A) {i : Nat} (hi : i < rs.length) : IntS G rs[i].2.2.1 rs[i].2.2.2 := h.aft _ (List.getElem_mem hi)
theorem OR.cell {e w : World} {G : View} {L A : Own} {t : Nat} {v : Value} {rs : List Rn} (h : OR G t v rs A) (hK : K e w G (A ++ L)) {i : Nat} (hi : i < rs.length) (j : Nat) {u : Value} (hj : (rc rs[i])[j]? = some u) :
    w.cell? (elA v (i * 3 + j)) = some u :=
  h.os.cell hK (by rw [flat_get' rc_len rs i j rs[i] (List.getElem?_eq_getElem hi) (by have := (List.getElem?_eq_some_iff.1 hj).1; rw [rc_len] at this; exact this)]; exact hj)
theorem flat_setR {rs : List Rn} {i j : Nat} {y : Rn} {u : Value} (hi : i < rs.length) (hj : j < 3) (h : rc y = (rc rs[i]).set j u) : (rs.flatMap rc).set (i * 3 + j) u = (rs.set i y).flatMap rc :=
  flat_set rc_len rs i j rs[i] y u (List.getElem?_eq_getElem hi) hj h
theorem OR.put {G : View} {t : Nat} {v : Value} {rs : List Rn} {A A' : Own} (h : OR G t v rs A) {i j : Nat} {y : Rn} {u : Value} (hi : i < rs.length) (hj : j < 3) (hy : rc y = (rc rs[i]).set j u) (hx : IntS G y.2.2.1 y.2.2.2)
    (ho : OS 3 t v rs.length ((rs.flatMap rc).set (i * 3 + j) u) A') : OR G t v (rs.set i y) A' :=
  ⟨by rw [List.length_set, ← flat_setR hi hj hy]; exact ho, fun x hm => by
    rcases List.mem_or_eq_of_mem_set hm with h1 | rfl
    · exact h.aft x h1
    · exact hx⟩
theorem rgl_same {rs : List Rn} {i : Nat} (hi : i < rs.length) {y : Rn} (h : nd y = nd rs[i]) : rgl (rs.set i y) = rgl rs := by
  rw [rgl_set, h, ← rg_get hi]; exact List.set_getElem_self _
def StpR (e : World) (G : View) (t s : Nat) (sb : Nat) (L : Own) (o : Option (List Nd)) (r : Value) (w : World) : Prop :=
  (r = .bool false ∧ o = none ∧ K e w G L) ∨ ∃ G' v rs A, r = .bool true ∧ o = some (rgl rs) ∧ VLe G G' ∧ OR G' t v rs A ∧ K e w G' ((sb, row [v] s) :: (A ++ L))
open Go
theorem cellV_row {G : View} {b : Nat} {l : List Value} {t : TypeId} (h : G b = some (row l t)) (o : Nat) : cellV G ⟨b, o, none⟩ = l[o]? := by
  unfold cellV; simp only [h]; simp [row]
theorem OR.all {e w : World} {G : View} {L A : Own} {t s sb : Nat} {v : Value} {rs : List Rn} (ho : OR G t v rs A) (hK : K e w G ((sb, row [v] s) :: (A ++ L))) :
    ∃ Gf, VLe G Gf ∧ RngS Gf v rs ∧ cellV Gf ⟨sb, 0, none⟩ = some v ∧ K e w Gf L ∧ (∀ w' L', K e w' Gf L' → K e w' G ((sb, row [v] s) :: (A ++ L'))) := by
  have h0 : K e w G (A ++ ((sb, row [v] s) :: L)) := K.mid (A := [_]) (B := A) hK
  have h1 : K e w (addV G A) ([(sb, row [v] s)] ++ L) := h0.pub
  have h2 := h1.pub
  refine ⟨_, h0.addV_le.trans h1.addV_le, (ho.fr h0).mono h1.addV_le, ?_, h2, fun w' L' h' => K.mid (A := A) (B := [_]) (h0.unpub' (h1.unpub' h'))⟩
  exact cellV_row (addV_mem (by simp) (List.mem_cons_self ..)) 0
theorem NdA.of' {G : View} {v : Value} {rs : List Rn} {id : Int} (hv : RngS G v rs) (hs : RgSafe (rgl rs)) (h : id ∈ ids (rgl rs)) : ∃ i, NdA G rs id i := NdA.of hv hs.1 h
theorem nAt_of {G : View} {v : Value} {rs : List Rn} {id : Int} {i : Nat} (h : NdA G rs id i) : nAt v (rgl rs) id = some (elA v (i * 3)) := by rw [nAt_in h.mem, h.hfx]
theorem K.dropL' {e w : World} {G : View} {A L : Own} (hK : K e w G (A ++ L)) : K e w G L := K.dropL hK
theorem NdA.aftE {G : View} {rs : List Rn} {id : Int} {i : Nat} (hn : NdA G rs id i) : (rs[i]'hn.lt).2.2.2 = (ndAt (rgl rs) id).2.2 := by rw [← hn.hnd]; rfl
theorem NdA.set {G : View} {rs : List Rn} {id : Int} {i : Nat} (hn : NdA G rs id i) {y : Rn} {n : Nd} (h : nd y = n) : setN (rgl rs) id n = rgl (rs.set i y) := by
  rw [rgl_set, h]; unfold setN; rw [hn.hfx]
theorem NdA.setBef {G : View} {rs : List Rn} {id : Int} {i : Nat} (hn : NdA G rs id i) (b : Int) : setN (rgl rs) id (id, b, (ndAt (rgl rs) id).2.2) = rgl (rs.set i ((rs[i]'hn.lt).1, b, (rs[i]'hn.lt).2.2.1, (rs[i]'hn.lt).2.2.2)) :=
  hn.set (by unfold nd; simp only; rw [hn.hid, hn.aftE])
theorem NdA.setAft {G : View} {rs : List Rn} {id : Int} {i : Nat} (hn : NdA G rs id i) (u : Value) (l : List Int) : setN (rgl rs) id (id, (ndAt (rgl rs) id).2.1, l) = rgl (rs.set i ((rs[i]'hn.lt).1, (rs[i]'hn.lt).2.1, u, l)) :=
  hn.set (by unfold nd; simp only; rw [hn.hid, hn.bef])
theorem rgl_ir {rs : List Rn} {i : Nat} (_ : i < rs.length) {a b : Int} {u v : Value} {l : List Int} : rgl (rs.set i (a, b, u, l)) = rgl (rs.set i (a, b, v, l)) := by
  rw [rgl_set, rgl_set]; rfl
theorem OR.cid {e w : World} {G G' : View} {L A : Own} {t : Nat} {v : Value} {rs : List Rn} {id : Int} {i : Nat} (h : OR G t v rs A) (hK : K e w G (A ++ L)) (hn : NdA G' rs id i) : w.cell? (elA v (i * 3 + 0)) = some (.int .i64 id) := by
  have := h.cell hK hn.lt 0 rfl
  rw [hn.hid] at this; exact this
end Go.Ro
