/- Steps of leases in plain lists. Regions that draw their order: operations whose order does not matter, each shown once. Conditions: those that each row states. -/
import Derived.Test.YtmgggljicpmndaaGreatDoorWdN
import Derived.Test.YtmgggljicpmndaaGreatDoorRd
namespace Go.Ro
def handL (ls : List Ls) (fr at' to un : Int) : Option (List Ls) :=
  if (lsAt ls at').2.1 ≠ fr then none
  else if (lsAt ls at').1 = at' then some (ls.set (lAt ls at') (at', to, un))
  else if 12 ≤ ls.length then none
  else some (ls.takeWhile (fun x => decide (x.1 < at')) ++ (at', to, un) :: ls.dropWhile (fun x => decide (x.1 < at')))
def takeL (ls : List Ls) (key to now un : Int) : Option (List Ls) :=
  if now ≤ (lsAt ls key).2.2 then none else some (ls.set (lAt ls key) ((lsAt ls key).1, to, un))
def rnw (ow now un : Int) (x : Ls) : Bool := decide (x.2.1 = ow ∧ now ≤ x.2.2 ∧ x.2.2 < un)
def rn1 (ow now un : Int) (x : Ls) : Ls := if rnw ow now un x then (x.1, x.2.1, un) else x
def renewL (ls : List Ls) (ow now un : Int) : List Ls := ls.map (rn1 ow now un)
def renewN (ls : List Ls) (ow now un : Int) : Nat := ls.countP (rnw ow now un)
noncomputable def tkL (ls : List Ls) (ok : Prop) (o : Option (List Ls)) : List Ls × Bool :=
  if dec (LsOk ls ∧ ok) = true then (match o with | some x => (x, true) | none => (ls, false)) else ([], false)
theorem tkL_no {r : List Ls} {ok : Prop} {o : Option (List Ls)} (h : ¬ (LsOk r ∧ ok)) : tkL r ok o = ([], false) := by
  unfold tkL; rw [if_neg (by rw [dec_f h]; simp)]
theorem tkL_none {r : List Ls} {ok : Prop} {o : Option (List Ls)} (h : LsOk r ∧ ok) (ho : o = none) : tkL r ok o = (r, false) := by
  unfold tkL; rw [if_pos (dec_t h), ho]
theorem tkL_some {r x : List Ls} {ok : Prop} {o : Option (List Ls)} (h : LsOk r ∧ ok) (ho : o = some x) : tkL r ok o = (x, true) := by
  unfold tkL; rw [if_pos (dec_t h), ho]
def LsA (lc : Ls → List Value) (G : View) (r : Value) (o : List Ls × Bool) : Prop := ∃ v, r = .tuple #[v, .bool o.2] ∧ SlR 3 (EF lc) G v o.1
theorem LsA.mk {lc : Ls → List Value} {G : View} {v : Value} {b : Bool} {x : List Ls} {o : List Ls × Bool} (ho : o = (x, b)) (h : SlR 3 (EF lc) G v x) : LsA lc G (.tuple #[v, .bool b]) o := by
  subst ho; exact ⟨v, rfl, h⟩
theorem handL_1 {ls : List Ls} {fr at' to un : Int} (h : (lsAt ls at').2.1 ≠ fr) : handL ls fr at' to un = none := if_pos h
theorem handL_2 {ls : List Ls} {fr at' to un : Int} (h : (lsAt ls at').2.1 = fr) (h2 : (lsAt ls at').1 = at') : handL ls fr at' to un = some (ls.set (lAt ls at') (at', to, un)) := by
  unfold handL; rw [if_neg (by simpa using h), if_pos h2]
theorem handL_3 {ls : List Ls} {fr at' to un : Int} (h : (lsAt ls at').2.1 = fr) (h2 : (lsAt ls at').1 ≠ at') (h3 : 12 ≤ ls.length) : handL ls fr at' to un = none := by
  unfold handL; rw [if_neg (by simpa using h), if_neg h2, if_pos h3]
theorem handL_4 {ls : List Ls} {fr at' to un : Int} (h : (lsAt ls at').2.1 = fr) (h2 : (lsAt ls at').1 ≠ at') (h3 : ¬ 12 ≤ ls.length) :
    handL ls fr at' to un = some (ls.takeWhile (fun x => decide (x.1 < at')) ++ (at', to, un) :: ls.dropWhile (fun x => decide (x.1 < at'))) := by
  unfold handL; rw [if_neg (by simpa using h), if_neg h2, if_neg h3]
theorem tw_gen {α : Type} {p : α → Bool} {xs : List α} {m : Nat} (hlt : ∀ x ∈ xs.take m, p x = true) (hge : ∀ h : m < xs.length, p xs[m] = false) : xs.takeWhile p = xs.take m ∧ xs.dropWhile p = xs.drop m := by
  have h2 : (xs.drop m).takeWhile p = [] ∧ (xs.drop m).dropWhile p = xs.drop m := by
    rcases Nat.lt_or_ge m xs.length with h | h
    · rw [List.drop_eq_getElem_cons h, List.takeWhile_cons_of_neg (by rw [hge h]; simp), List.dropWhile_cons_of_neg (by rw [hge h]; simp)]; exact ⟨rfl, rfl⟩
    · rw [List.drop_eq_nil_of_le h]; exact ⟨rfl, rfl⟩
  constructor
  · conv => lhs; rw [← List.take_append_drop m xs]
    rw [List.takeWhile_append_of_pos hlt, h2.1, List.append_nil]
  · conv => lhs; rw [← List.take_append_drop m xs]
    rw [List.dropWhile_append_of_pos hlt, h2.2]
theorem rn_step {ls : List Ls} {ow now un : Int} {i : Nat} (hi : i < ls.length) : ((ls.take i).map (rn1 ow now un) ++ ls.drop i).set i (rn1 ow now un ls[i]) = (ls.take (i + 1)).map (rn1 ow now un) ++ ls.drop (i + 1) := by
  have hl : ((ls.take i).map (rn1 ow now un)).length = i := by simp; omega
  rw [List.set_append_right _ _ (by omega), hl, Nat.sub_self, List.drop_eq_getElem_cons hi, List.set_cons_zero, List.take_succ_eq_append_getElem hi, List.map_append, List.append_assoc]; rfl
theorem rn_get {ls : List Ls} {ow now un : Int} {i : Nat} (hi : i < ls.length) : ((ls.take i).map (rn1 ow now un) ++ ls.drop i)[i]? = some ls[i] := by
  have hl : ((ls.take i).map (rn1 ow now un)).length = i := by simp; omega
  rw [List.getElem?_append_right (by omega), hl, Nat.sub_self, List.getElem?_drop, Nat.add_zero, List.getElem?_eq_getElem hi]
theorem OS.fcell {α : Type} {c : α → List Value} {sz : Nat} {t : Nat} {v : Value} {m : Nat} {zs : List α} {A : Own} (hc : ∀ x, (c x).length = sz) (h : OS sz t v m (zs.flatMap c) A) {e w : World} {G : View} {L : Own} (hK : K e w G (A ++ L)) {i j : Nat} {x : α} {u : Value}
    (hz : zs[i]? = some x) (hj : (c x)[j]? = some u) : w.cell? (elA v (i * sz + j)) = some u :=
  h.cell hK (by rw [flat_get' hc zs i j x hz (by have := (List.getElem?_eq_some_iff.1 hj).1; rw [hc] at this; exact this)]; exact hj)
theorem rn_count {ls : List Ls} {ow now un : Int} {i : Nat} (hi : i < ls.length) : (ls.take (i + 1)).countP (rnw ow now un) = (ls.take i).countP (rnw ow now un) + (if rnw ow now un ls[i] then 1 else 0) := by
  rw [List.take_succ_eq_append_getElem hi, List.countP_append, List.countP_singleton]
theorem renew_none {ls : List Ls} {ow now un : Int} (h : renewN ls ow now un = 0) : renewL ls ow now un = ls := by
  unfold renewL
  unfold renewN at h
  rw [List.countP_eq_zero] at h
  conv => rhs; rw [← List.map_id ls]
  refine List.map_congr_left fun x hx => ?_
  unfold rn1
  rw [if_neg (h x hx)]; rfl
theorem rn_same {ls : List Ls} {ow now un : Int} {i : Nat} (hi : i < ls.length) : ((ls.take i).map (rn1 ow now un) ++ ls.drop i).set i ls[i] = (ls.take i).map (rn1 ow now un) ++ ls.drop i := by
  have h := rn_get (ow := ow) (now := now) (un := un) hi
  obtain ⟨h1, h2⟩ := List.getElem?_eq_some_iff.1 h
  conv => lhs; rw [← h2]
  exact List.set_getElem_self _
def scW (w : Wd) : Wd := if w.scan.1 < 64 ∧ 0 ≤ own w w.scan.1 then { w with scan := stp w.leases (keys w.items) w.scan } else w
noncomputable def rgO (r : List Nd) (kd a b : Int) : List Nd × Bool :=
  if kd = 1 then tk r (Pt a ∧ Pt b) (joinR r a b) else if kd = 2 then tk r (Pt a) (failR r a) else if kd = 3 then tk r (Pt a) (dropR r a)
  else if kd = 4 then tk r (Pt a) (adoptR r a) else if kd = 5 then tk r (Pt a ∧ Pt b) (closerR r a b) else if kd = 6 then tk r (Pt a ∧ Pt b) (notifyR r a b) else (r, false)
noncomputable def rgW (w : Wd) (kd a b : Int) : Wd := if (rgO w.ring kd a b).2 = true then { w with ring := (rgO w.ring kd a b).1 } else w
def utl (n : Int) : Int := min (n + 20) 999
noncomputable def leO (w : Wd) (kd a b c : Int) : List Ls × Bool :=
  if a ∉ ids w.ring then (w.leases, false)
  else if kd = 7 then (if c ∈ ids w.ring ∧ Pt b ∧ own w b = a then tkL w.leases (Pt a ∧ Pt b ∧ Pt c ∧ Tm (utl w.now)) (handL w.leases a b c (utl w.now)) else (w.leases, false))
  else if kd = 8 then tkL w.leases (Pt b ∧ Pt a ∧ Tm w.now ∧ Tm (utl w.now)) (takeL w.leases b a w.now (utl w.now))
  else if kd = 9 then (if Pt a then (renewL w.leases a w.now (utl w.now), true) else (w.leases, false)) else (w.leases, false)
noncomputable def leW (w : Wd) (kd a b c : Int) : Wd := if (leO w kd a b c).2 = true then { w with leases := (leO w kd a b c).1 } else w
theorem leW_no {w : Wd} {kd a b c : Int} {x : List Ls} (h : leO w kd a b c = (x, false)) : leW w kd a b c = w := if_neg (by rw [h]; simp)
theorem leW_yes {w : Wd} {kd a b c : Int} {x : List Ls} (h : leO w kd a b c = (x, true)) : leW w kd a b c = { w with leases := x } := by
  unfold leW; rw [h]; rfl
theorem leW_T {w : Wd} {kd a b c : Int} {o : List Ls × Bool} (h : leO w kd a b c = o) : (o.2 = true → { w with leases := o.1 } = leW w kd a b c) ∧ (o.2 = false → w = leW w kd a b c) := by
  unfold leW; rw [h]
  exact ⟨fun h => (if_pos h).symm, fun h => (if_neg (by rw [h]; simp)).symm⟩
theorem utl_tm {n : Int} (h : Tm n) : Tm (utl n) := by unfold utl; exact ⟨by have := h.1; omega, by omega⟩
def itf (b c : Int) : Bool → List It → List It
  | p, [] => if p then [] else [(b, c)]
  | p, x :: xs => (if p = false ∧ b ≤ x.1 then [(b, c)] else []) ++ ((if x.1 ≠ b then [x] else []) ++ itf b c (p || decide (b ≤ x.1)) xs)
theorem itf_at {b c : Int} {p : Bool} {xs : List It} {i : Nat} (hi : i < xs.length) :
    itf b c p (xs.drop i) = (if p = false ∧ b ≤ xs[i].1 then [(b, c)] else []) ++ ((if xs[i].1 ≠ b then [xs[i]] else []) ++ itf b c (p || decide (b ≤ xs[i].1)) (xs.drop (i + 1))) := by
  rw [List.drop_eq_getElem_cons hi]; rfl
noncomputable def itW (w : Wd) (kd a b c : Int) : Wd :=
  if Pt b ∧ own w b = a ∧ 0 ≤ a ∧ (kd = 11 → 0 ≤ c ∧ c ≤ 99) then { w with items := itf b c (decide (kd = 12)) w.items, since := if kd = 12 then w.since.filter (fun x => decide (x ≠ b)) else w.since } else w
noncomputable def doW (w : Wd) (kd a b c : Int) : Wd :=
  if kd = 7 ∨ kd = 8 ∨ kd = 9 then leW w kd a b c else if kd = 10 then { w with now := min (w.now + 1) 999 } else if kd = 11 ∨ kd = 12 then itW w kd a b c
  else if kd = 13 then { w with scan := (0, []), since := keys w.items } else if kd = 14 then scW w else rgW w kd a b
structure WdA (w : Wd) : Prop where
  now : Tm w.now
  ls : LsOk w.leases
  it : ItOk w.items
  sc : SnOk w.scan
  si : Asc w.since
theorem WdOk.wda {w : Wd} (h : WdOk w) : WdA w := ⟨h.1, h.2.2.1, h.2.2.2.1, h.2.2.2.2.1, h.2.2.2.2.2.1⟩
theorem WdA.zl {w : Wd} (h : WdA w) : w.items.length ≤ 64 := by have := h.it.2.len; rwa [keys_len] at this
theorem rgW_no {w : Wd} {kd a b : Int} (h : ¬ (1 ≤ kd ∧ kd ≤ 6)) : rgW w kd a b = w := by
  unfold rgW rgO
  rw [if_neg (show ¬ kd = 1 by omega), if_neg (show ¬ kd = 2 by omega), if_neg (show ¬ kd = 3 by omega), if_neg (show ¬ kd = 4 by omega), if_neg (show ¬ kd = 5 by omega), if_neg (show ¬ kd = 6 by omega)]
  exact if_neg (by simp)
open Go
section
variable {P : Program} {n : Nat} {Q : Po} {w : World} {σ : Type}
def Clo (ops : List Oper) (l : List Bool) : Prop := ∀ (j : Nat) (o : Oper), ops[j]? = some o → l[j]? = some true → ∀ e ∈ o.after.toList, Region.binds .any e = true → l[e.on]? = some true
def AoS (P : Program) (n : Nat) (ops : List Oper) (J : List Bool → σ → World → Prop) (Ψ : Nat → σ → Value → Prop) (D : List Nat) (d : Nat → Nat) (f0 : Sl) (i : Nat) : Prop :=
  ∀ o : Oper, ops[i]? = some o → ∀ (l : List Bool) s f w, l.length = ops.length → l[i]? = some false → Clo ops l → (∀ x, x ∉ D → f x = f0 x) → (∀ j : Nat, l[j]? = some true → Ψ j s (f (d j))) → J l s w → (∀ e ∈ o.after.toList, Region.binds .any e = true → l[e.on]? = some true) →
    ∀ R : Po, (∀ g w' s', (∀ x, x ≠ d i → g x = f x) → Ψ i s' (g (d i)) → (∀ j u, j ≠ i → Ψ j s u → Ψ j s' u) → J (l.set i true) s' w' → R .normal g w') → WL P n ops.toArray R [o] f w
def edgeOk (ops : List Oper) : Bool := (List.range ops.length).all fun i => match ops[i]? with | some o => o.after.toList.all (fun e => Nat.blt e.on i) | none => true
theorem cnt_set : ∀ (l : List Bool) (i : Nat), l[i]? = some false → (l.set i true).count false + 1 = l.count false
  | [], _, h => by simp at h
  | b :: l, 0, h => by simp at h; subst h; simp
  | b :: l, i + 1, h => by
    have := cnt_set l i (by simpa using h)
    simp only [List.set_cons_succ, List.count_cons]
    omega
theorem ready_mem {ops : List Oper} {l : List Bool} {i : Nat} : i ∈ Region.ready .any ops.toArray l.toArray ↔ i < ops.length ∧ l.getD i true = false ∧ ∃ o, ops[i]? = some o ∧ ∀ e ∈ o.after.toList, Region.binds .any e = true → l.getD e.on false = true := by
  unfold Region.ready
  simp only [List.mem_filter, List.mem_range, List.size_toArray, Bool.and_eq_true, Bool.not_eq_true', List.getElem?_toArray]
  refine and_congr Iff.rfl (and_congr (by simp [Array.getD_eq_getD_getElem?, List.getD_eq_getElem?_getD]) ?_)
  cases ops[i]? with
  | none => simp
  | some o =>
    simp only [Option.map_some, Option.getD_some, Array.all_eq_true_iff_forall_mem, Option.some.injEq, exists_eq_left']
    constructor
    · intro h e he hb
      have := h e (Array.mem_def.2 he)
      simp only [hb, Bool.not_true, Bool.false_or] at this
      simpa [Array.getD_eq_getD_getElem?, List.getD_eq_getElem?_getD] using this
    · intro h e he
      cases hb : Region.binds .any e with
      | false => rfl
      | true =>
        have := h e (Array.mem_def.1 he) hb
        simpa [Array.getD_eq_getD_getElem?, List.getD_eq_getElem?_getD] using this
theorem anyO {ops : List Oper} {J : List Bool → σ → World → Prop} {Ψ : Nat → σ → Value → Prop} {S : World → Prop} {D : List Nat} {d : Nat → Nat} {f0 : Sl} {l0 : List Bool} (he : edgeOk ops = true)
    (hd : ∀ i, i < ops.length → l0[i]? = some false → d i ∈ D) (hinj : ∀ i j, i < ops.length → j < ops.length → l0[i]? = some false → d i = d j → i = j) (hS : ∀ l s w, J l s w → S w)
    (hst : ∀ i : Nat, l0[i]? = some false → AoS P n ops J Ψ D d f0 i)
    (hdone : ∀ (l : List Bool) s f w, (∀ i : Nat, i < ops.length → l[i]? = some true) → (∀ x, x ∉ D → f x = f0 x) → (∀ i, i < ops.length → Ψ i s (f (d i))) → J l s w → Q .normal f w) :
    ∀ (k : Nat) (l : List Bool) (f : Sl) (w : World) (s : σ), l.length = ops.length → l.count false ≤ k → (∀ i : Nat, l[i]? = some false → l0[i]? = some false) → Clo ops l → (∀ x, x ∉ D → f x = f0 x) → (∀ i : Nat, l[i]? = some true → Ψ i s (f (d i))) → J l s w →
      WX P n ops.toArray S Q k l f w := by
  have hall : ∀ (l : List Bool), l.length = ops.length → Region.ready .any ops.toArray l.toArray = [] → ∀ i, i < ops.length → l[i]? = some true := by
    intro l hl hr i
    induction i using Nat.strongRecOn with
    | _ i ih =>
      intro hi
      cases hb : l[i]? with
      | none => rw [List.getElem?_eq_none_iff] at hb; omega
      | some b =>
        cases b with
        | true => rfl
        | false =>
          exfalso
          have : i ∈ Region.ready .any ops.toArray l.toArray := by
            refine ready_mem.2 ⟨hi, by rw [List.getD_eq_getElem?_getD, hb]; rfl, ops[i], List.getElem?_eq_getElem hi, fun e hee _ => ?_⟩
            have h1 := List.all_eq_true.1 he i (List.mem_range.2 hi)
            rw [List.getElem?_eq_getElem hi] at h1
            have h2 := List.all_eq_true.1 h1 e hee
            have h3 : e.on < i := by simpa [Nat.blt_eq] using h2
            rw [List.getD_eq_getElem?_getD, ih e.on h3 (by omega)]; rfl
          rw [hr] at this; cases this
  intro k
  induction k with
  | zero =>
    intro l f w s hl hc hl0 hcl hb hp hJ
    have hr : Region.ready .any ops.toArray l.toArray = [] := by
      rw [List.eq_nil_iff_forall_not_mem]
      intro i hi
      obtain ⟨h1, h2, _⟩ := ready_mem.1 hi
      have h3 : l[i]? = some false := by
        rw [List.getD_eq_getElem?_getD, List.getElem?_eq_getElem (by omega)] at h2
        rw [List.getElem?_eq_getElem (by omega)]; simpa using h2
      have := cnt_set l i h3
      omega
    exact xd hr (hdone l s f w (hall l hl hr) hb (fun i hi => hp i (hall l hl hr i hi)) hJ)
  | succ k ih =>
    intro l f w s hl hc hl0 hcl hb hp hJ
    refine ⟨fun hr => ⟨rfl, f, rfl, hdone l s f w (hall l hl hr) hb (fun i hi => hp i (hall l hl hr i hi)) hJ⟩, fun i hi => ?_⟩
    obtain ⟨h1, h2, o, ho, h4⟩ := ready_mem.1 hi
    have h3 : l[i]? = some false := by
      rw [List.getD_eq_getElem?_getD, List.getElem?_eq_getElem (by omega)] at h2
      rw [List.getElem?_eq_getElem (by omega)]; simpa using h2
    have h4' : ∀ e ∈ o.after.toList, Region.binds .any e = true → l[e.on]? = some true := fun e hee hbd => by
      have := h4 e hee hbd
      rw [List.getD_eq_getElem?_getD] at this
      cases hq : l[e.on]? with
      | none => rw [hq] at this; cases this
      | some b => rw [hq] at this; simp only [Option.getD_some] at this; rw [this]
    refine xop (l' := l.set i true) (by simpa using ho) rfl ?_
    refine hst i (hl0 i h3) o ho l s f w hl h3 hcl hb hp hJ h4' _ (fun g w' s' g1 g2 g3 g4 => ?_)
    have hset : ∀ j, (l.set i true)[j]? = some true ↔ j = i ∨ l[j]? = some true := fun j => by
      by_cases hji : j = i
      · subst hji; simp [hl, h1]
      · rw [List.getElem?_set_ne (Ne.symm hji)]; simp [hji]
    refine ⟨rfl, S, hS _ _ _ g4, fun _ h => h, ih (l.set i true) g w' s' (by rw [List.length_set]; exact hl) (by have := cnt_set l i h3; omega) (fun j hj => ?_) (fun j oj hoj hj e hee hbd => ?_) (fun x hx => ?_) (fun j hj => ?_) g4⟩
    · by_cases hji : j = i
      · subst hji; rw [List.getElem?_set_self (by omega)] at hj; cases hj
      · rw [List.getElem?_set_ne (Ne.symm hji)] at hj; exact hl0 j hj
    · refine (hset _).2 (.inr ?_)
      rcases (hset j).1 hj with rfl | hj
      · rw [ho] at hoj; obtain rfl := Option.some.inj hoj; exact h4' e hee hbd
      · exact hcl j oj hoj hj e hee hbd
    · rw [g1 x (fun e => hx (e ▸ hd i h1 (hl0 i h3))), hb x hx]
    · by_cases hji : j = i
      · subst hji; exact g2
      · have hjl := ((hset j).1 hj).resolve_left hji
        have hjn : j < ops.length := by have := (List.getElem?_eq_some_iff.1 hjl).1; omega
        have h5 := g3 j (f (d j)) hji (hp j hjl)
        rw [g1 (d j) (fun e => hji (hinj i j h1 hjn (hl0 i h3) e.symm).symm)]; exact h5
end
section
variable {P : Program} {n : Nat} {Q : Po} {f : Sl} {w e : World} {G : View} {L : Own} {ops : Array Oper} {rest : List Oper} {d : Nat} {pos : String} {af : Array Edge}
theorem run_append0 {T E' ty' sz bytes k bb : Nat} {z : Value} {news : List Value} (hK : K e w G L) (hT : P.underlying T = some (.slice E')) (hi : Inf P E' z sz bytes) (hzc : z.cells.size = sz)
    {b2 : Option Addr} {c2 : Nat} (hl : news.length = k * sz) (hb2 : k = 0 ∨ ∃ b o, b2 = some ⟨b, o, none⟩)
    (hu : ∀ j c, news[j]? = some c → w.cell? (elA (.slice b2 k c2) j) = some c) (hmk : k ≤ 1000000000) (hby : bytes ≤ 1000) :
    ∃ v' A' w1, (Builtin.append_ #[T, T] ty' #[.slice (some ⟨bb, 0, none⟩) 0 0, .slice b2 k c2]).run P w = .ok v' w1 ∧ K e w1 G (A' ++ L) ∧ ((k = 0 ∧ v' = .slice (some ⟨bb, 0, none⟩) 0 0 ∧ A' = []) ∨ OS sz E' v' k news A') := by
  obtain ⟨i, g1, g2, g3, g4⟩ := hi.get
  rcases Nat.eq_zero_or_pos k with hk | hk
  · subst hk
    have hn : news = [] := List.eq_nil_of_length_eq_zero (by simpa using hl)
    subst hn
    have hfc : ∀ x : Option Addr, (Builtin.firstCells sz 0 (.slice x 0 c2)).run P w = .ok #[] w := by
      intro x; cases x <;> simp [Builtin.firstCells, loadCells, loadCellsFrom]
    refine ⟨_, [], w, ?_, hK, .inl ⟨rfl, rfl, rfl⟩⟩
    simp [Builtin.append_, run_underlying hT, sizeOf, typeInfo, g1, g3, Builtin.lenOf, hfc, storeCells]
  · obtain ⟨b, o, rfl⟩ : ∃ b o, b2 = some ⟨b, o, none⟩ := by
      rcases hb2 with h | h
      · omega
      · exact h
    have hnews : ∀ j u, news[j]? = some u → w.cell? ((⟨b, o, none⟩ : Addr).add j) = some u := by
      intro j u hj
      have := hu j u hj
      have hadd : (⟨b, o, none⟩ : Addr).add j = ⟨b, o + j, none⟩ := by
        unfold Addr.add
        split
        · rename_i h; rw [h]; rfl
        · rfl
      rw [hadd]; exact this
    have hKg : ∀ x : Obj, K e (w.drew.alloc x) G ((w.heap.size, x) :: L) := fun x => (K.drawn hK (w.drawn + 1)).alloc x
    have hfits : Builtin.nextslicecap (0 + k) 0 * i.bytes ≤ 281474976710656 := growslice_fits (by omega) (by rw [g4, Nat.zero_add]; have := Nat.mul_le_mul hmk hby; omega)
    have hr := run_append_grow (P := P) w T ty' E' i z hT g1 g2 ⟨bb, 0, none⟩ 0 0 [] (by simp) (by simp) ⟨b, o, none⟩ k c2 news (by rw [g3]; exact hl) hnews (by omega) (by omega) hfits
    have hge := grownCap_ge w (0 + k) 0 E'
    refine ⟨_, [_], _, hr, hKg _, .inr ?_⟩
    rw [Nat.zero_add] at hge ⊢
    refine ⟨hl, .inr ⟨_, _, _, rfl, rfl, hge, grownCap_le_maxLen w k 0 E' (by unfold maxLen; omega), ?_, ?_⟩⟩
    · simp only [Array.size_append, List.size_toArray, size_zeroCells, hzc, hl, List.length_nil, Nat.zero_add, ← Nat.add_mul]
      congr 1
      omega
    · simp only [Array.toList_append, List.nil_append]
      rw [← hl]
      exact List.take_left
theorem ap0 {α : Type} {c : α → List Value} {T E' ty' by' sz bb : Nat} {z : Value} {u : Value} {x y : Operand} {ys : List α} (hc : ∀ x, (c x).length = sz) (hsz : Nat.ble 1 sz = true) (_ : ∀ k, (c k).all one = true) (hK : K e w G L) (hT : P.underlying T = some (.slice E')) (hi : Inf P E' z sz by') (hz : z.cells.size = sz) (hby : Nat.ble by' 1000 = true)
    (hx : ev n f x = .slice (some ⟨bb, 0, none⟩) 0 0) (hy : ev n f y = u) (hu : SlR sz (EF c) G u ys) (hmk : ys.length ≤ 1000000000)
    (h : ∀ v' G' w1, VLe G G' → SlR sz (EF c) G' v' ys → K e w1 G' L → WL P n ops Q rest (upd f d v') w1) :
    WL P n ops Q (⟨some d, .call ⟨.builtin .append, #[x, y], #[T, T]⟩, ty', pos, af, none⟩ :: rest) f w := by
  obtain ⟨b2, c2, rfl, _, _, hb2⟩ := hu.1
  obtain ⟨v', A', w1, hr, h2, h3⟩ := run_append0 (P := P) (ty' := ty') (bb := bb) (news := ys.flatMap c) hK hT hi hz (flat_len hc ys) hb2 (fun _ _ hj => hK.cell (hu.cells hc (Nat.le_of_ble_eq_true hsz) hj)) hmk (Nat.le_of_ble_eq_true hby)
  obtain ⟨G', hG', hv', hK'⟩ : ∃ G', VLe G G' ∧ SlR sz (EF c) G' v' ys ∧ K e w1 G' L := by
    rcases h3 with ⟨h4, rfl, rfl⟩ | h3
    · have : ys = [] := List.eq_nil_of_length_eq_zero h4
      subst this
      exact ⟨G, VLe.refl _, SlR.lit0, h2⟩
    · exact K.pubE (c := c) hc h2 h3
  refine vl ?_ (h v' G' w1 hG' hv' hK')
  unfold St execOp
  simp only [resolve, Sem.run_bind, Sem.run_pure, Result.andThen_ok, invoke, builtin, List.map_toArray, List.map_cons, List.map_nil, hx, hy, hr]
theorem ap0I {T E' ty' by' bb : Nat} {u : Value} {x y : Operand} {ys : List Int} (hK : K e w G L) (hT : P.underlying T = some (.slice E')) (hi : Inf P E' (.int .i64 0) 1 by') (hby : Nat.ble by' 1000 = true)
    (hx : ev n f x = .slice (some ⟨bb, 0, none⟩) 0 0) (hy : ev n f y = u) (hu : IntS G u ys) (hmk : ys.length ≤ 1000000000)
    (h : ∀ v' G' w1, VLe G G' → IntS G' v' ys → K e w1 G' L → WL P n ops Q rest (upd f d v') w1) :
    WL P n ops Q (⟨some d, .call ⟨.builtin .append, #[x, y], #[T, T]⟩, ty', pos, af, none⟩ :: rest) f w :=
  ap0 (c := fun n => [.int .i64 n]) (fun _ => rfl) rfl (fun _ => rfl) hK hT hi rfl hby hx hy hu hmk h
theorem bs0P {T E' sz by' : Nat} {z : Value} {ty' : TypeId} (hK : K e w G L) (hT : P.underlying T = some (.slice E')) (hi : Inf P E' z sz by')
    (h : ∀ b w1, K e w1 G L → WL P n ops Q rest (upd f d (.slice (some ⟨b, 0, none⟩) 0 0)) w1) : WL P n ops Q (⟨some d, .buildSlice T 0 #[], ty', pos, af, none⟩ :: rest) f w :=
  bs0 hK hT hi (fun b w1 hK => h b w1 hK.drop1)
theorem falses {l : List Bool} {r : List Nat} (h : (List.range l.length).filter (fun i => !(l.getD i true)) = r) {i : Nat} (hi : l[i]? = some false) : i ∈ r := by
  subst h
  have hlt := (List.getElem?_eq_some_iff.1 hi).1
  exact List.mem_filter.2 ⟨List.mem_range.2 hlt, by rw [List.getD_eq_getElem?_getD, hi]; rfl⟩
end
theorem dep_of {o : Oper} {l : List Bool} (h : ∀ e ∈ o.after.toList, Region.binds .any e = true → l[e.on]? = some true) (js : List Nat) (hj : (o.after.toList.filter (Region.binds .any)).map (·.on) = js) : ∀ j ∈ js, l[j]? = some true := by
  subst hj
  intro j hm
  obtain ⟨e, he, rfl⟩ := List.mem_map.1 hm
  obtain ⟨h1, h2⟩ := List.mem_filter.1 he
  exact h e h1 h2
theorem getD_inj {dl : List Nat} (h : dl.Nodup) {i j : Nat} (hi : i < dl.length) (hj : j < dl.length) (he : dl.getD i 0 = dl.getD j 0) : i = j := by
  rw [List.getD_eq_getElem?_getD, List.getD_eq_getElem?_getD, List.getElem?_eq_getElem hi, List.getElem?_eq_getElem hj] at he
  simp only [Option.getD_some] at he
  exact (List.getElem_inj h).1 he
theorem upd_ne' {f : Sl} {d x : Nat} {v : Value} (h : x ≠ d) : upd f d v x = f x := by
  have : Nat.beq x d = false := by
    cases hb : Nat.beq x d
    · rfl
    · exact absurd (Nat.eq_of_beq_eq_true hb) h
  unfold upd; rw [this]; rfl
theorem forgetF {p : Sl → Prop} {f : Sl} (l : List (Nat × Value)) (h : Has f l) (k : ∀ f0, Has f0 l → p f0) : p f := k f h
def cloB (ops : List Oper) (l : List Bool) : Bool := (List.range ops.length).all fun j => match ops[j]? with | some o => !(l.getD j false) || o.after.toList.all (fun e => !Region.binds .any e || l.getD e.on false) | none => true
theorem clo_of {ops : List Oper} {l : List Bool} (h : cloB ops l = true) : Clo ops l := by
  intro j o ho hj e he hb
  have hlt := (List.getElem?_eq_some_iff.1 ho).1
  have h1 := List.all_eq_true.1 h j (List.mem_range.2 hlt)
  rw [ho] at h1
  simp only [List.getD_eq_getElem?_getD, hj, Option.getD_some, Bool.not_true, Bool.false_or] at h1
  have h2 := List.all_eq_true.1 h1 e he
  simp only [hb, Bool.not_true, Bool.false_or] at h2
  cases hq : l[e.on]? with
  | none => rw [hq] at h2; cases h2
  | some b => rw [hq] at h2; simp only [Option.getD_some] at h2; rw [h2]
theorem trues {l : List Bool} {r : List Nat} (h : (List.range l.length).filter (fun i => l.getD i false) = r) {i : Nat} (hi : l[i]? = some true) : i ∈ r := by
  subst h
  have hlt := (List.getElem?_eq_some_iff.1 hi).1
  exact List.mem_filter.2 ⟨List.mem_range.2 hlt, by rw [List.getD_eq_getElem?_getD, hi]; rfl⟩
theorem cells_of {v u : Value} {l : List Value} (h : v = u) (hc : u.cells = l.toArray) : v.cells = l.toArray := by rw [h]; exact hc
theorem set_ne {l : List Bool} {i j : Nat} (h : (l.set i true)[j]? ≠ some true) : l[j]? ≠ some true := by
  intro g
  apply h
  by_cases e : i = j
  · subst e; rw [List.getElem?_set_self (List.getElem?_eq_some_iff.1 g).1]
  · rw [List.getElem?_set_ne e]; exact g
end Go.Ro
