/- Steps of leases in plain lists. Conditions: those that each row states. -/
import Derived.Test.YtoaeogpnbpaojaaGreatWdN
namespace Go.Ro

/-- what is handed on, taken, renewed -/
def handL (ls : List Ls) (fr at' to un : Int) : Option (List Ls) :=
  if (lsAt ls at').2.1 ≠ fr then none
  else if (lsAt ls at').1 = at' then some (ls.set (lAt ls at') (at', to, un))
  else if 12 ≤ ls.length then none
  else some (ls.takeWhile (fun x => decide (x.1 < at')) ++ (at', to, un) :: ls.dropWhile (fun x => decide (x.1 < at')))
def takeL (ls : List Ls) (key to now un : Int) : Option (List Ls) :=
  if now ≤ (lsAt ls key).2.2 then none else some (ls.set (lAt ls key) ((lsAt ls key).1, to, un))
def rnw (ow now un : Int) (x : Ls) : Bool := decide (x.2.1 = ow ∧ now ≤ x.2.2 ∧ x.2.2 < un)
def rn1 (ow now un : Int) (x : Ls) : Ls := if rnw ow now un x then (x.1, x.2.1, un) else x
def renewL (ls : List Ls) (ow now un : Int) : List Ls := ls.map (rn1 ow now un)
def renewN (ls : List Ls) (ow now un : Int) : Nat := ls.countP (rnw ow now un)
/-- what a step answers -/
noncomputable def tkL (ls : List Ls) (ok : Prop) (o : Option (List Ls)) : List Ls × Bool :=
  if dec (LsOk ls ∧ ok) = true then (match o with | some x => (x, true) | none => (ls, false)) else ([], false)
theorem tkL_no {r : List Ls} {ok : Prop} {o : Option (List Ls)} (h : ¬ (LsOk r ∧ ok)) : tkL r ok o = ([], false) := by
  unfold tkL; rw [if_neg (by rw [dec_f h]; simp)]
theorem tkL_none {r : List Ls} {ok : Prop} {o : Option (List Ls)} (h : LsOk r ∧ ok) (ho : o = none) : tkL r ok o = (r, false) := by
  unfold tkL; rw [if_pos (dec_t h), ho]
theorem tkL_some {r x : List Ls} {ok : Prop} {o : Option (List Ls)} (h : LsOk r ∧ ok) (ho : o = some x) : tkL r ok o = (x, true) := by
  unfold tkL; rw [if_pos (dec_t h), ho]
/-- what a step answers, read -/
def LsA (lc : Ls → List Value) (G : View) (r : Value) (o : List Ls × Bool) : Prop := ∃ v, r = .tuple #[v, .bool o.2] ∧ SlR 3 (EF lc) G v o.1
theorem LsA.mk {lc : Ls → List Value} {G : View} {v : Value} {b : Bool} {x : List Ls} {o : List Ls × Bool} (ho : o = (x, b)) (h : SlR 3 (EF lc) G v x) : LsA lc G (.tuple #[v, .bool b]) o := by
  subst ho; exact ⟨v, rfl, h⟩
theorem handL_1 {ls : List Ls} {fr at' to un : Int} (h : (lsAt ls at').2.1 ≠ fr) : handL ls fr at' to un = none := if_pos h
theorem handL_2 {ls : List Ls} {fr at' to un : Int} (h : (lsAt ls at').2.1 = fr) (h2 : (lsAt ls at').1 = at') : handL ls fr at' to un = some (ls.set (lAt ls at') (at', to, un)) := by
  unfold handL; rw [if_neg (by simpa using h), if_pos h2]
theorem handL_3 {ls : List Ls} {fr at' to un : Int} (h : (lsAt ls at').2.1 = fr) (h2 : (lsAt ls at').1 ≠ at') (h3 : 12 ≤ ls.length) : handL ls fr at' to un = none := by
  unfold handL; rw [if_neg (by simpa using h), if_neg h2, if_pos h3]
theorem handL_4 {ls : List Ls} {fr at' to un : Int} (h : (lsAt ls at').2.1 = fr) (h2 : (lsAt ls at').1 ≠ at') (h3 : ¬ 12 ≤ ls.length) :
    handL ls fr at' to un = some (ls.takeWhile (fun x => decide (x.1 < at')) ++ (at', to, un) :: ls.dropWhile (fun x => decide (x.1 < at'))) := by
  unfold handL; rw [if_neg (by simpa using h), if_neg h2, if_neg h3]
theorem tw_gen {α : Type} {p : α → Bool} {xs : List α} {m : Nat} (hlt : ∀ x ∈ xs.take m, p x = true) (hge : ∀ h : m < xs.length, p xs[m] = false) : xs.takeWhile p = xs.take m ∧ xs.dropWhile p = xs.drop m := by
  have h2 : (xs.drop m).takeWhile p = [] ∧ (xs.drop m).dropWhile p = xs.drop m := by
    rcases Nat.lt_or_ge m xs.length with h | h
    · rw [List.drop_eq_getElem_cons h, List.takeWhile_cons_of_neg (by rw [hge h]; simp), List.dropWhile_cons_of_neg (by rw [hge h]; simp)]; exact ⟨rfl, rfl⟩
    · rw [List.drop_eq_nil_of_le h]; exact ⟨rfl, rfl⟩
  constructor
  · conv => lhs; rw [← List.take_append_drop m xs]
    rw [List.takeWhile_append_of_pos hlt, h2.1, List.append_nil]
  · conv => lhs; rw [← List.take_append_drop m xs]
    rw [List.dropWhile_append_of_pos hlt, h2.2]
theorem rn_step {ls : List Ls} {ow now un : Int} {i : Nat} (hi : i < ls.length) : ((ls.take i).map (rn1 ow now un) ++ ls.drop i).set i (rn1 ow now un ls[i]) = (ls.take (i + 1)).map (rn1 ow now un) ++ ls.drop (i + 1) := by
  have hl : ((ls.take i).map (rn1 ow now un)).length = i := by simp; omega
  rw [List.set_append_right _ _ (by omega), hl, Nat.sub_self, List.drop_eq_getElem_cons hi, List.set_cons_zero, List.take_succ_eq_append_getElem hi, List.map_append, List.append_assoc]; rfl
theorem rn_get {ls : List Ls} {ow now un : Int} {i : Nat} (hi : i < ls.length) : ((ls.take i).map (rn1 ow now un) ++ ls.drop i)[i]? = some ls[i] := by
  have hl : ((ls.take i).map (rn1 ow now un)).length = i := by simp; omega
  rw [List.getElem?_append_right (by omega), hl, Nat.sub_self, List.getElem?_drop, Nat.add_zero, List.getElem?_eq_getElem hi]
theorem OS.fcell {α : Type} {c : α → List Value} {sz : Nat} {t : Nat} {v : Value} {m : Nat} {zs : List α} {A : Own} (hc : ∀ x, (c x).length = sz) (h : OS sz t v m (zs.flatMap c) A) {e w : World} {G : View} {L : Own} (hK : K e w G (A ++ L)) {i j : Nat} {x : α} {u : Value}
    (hz : zs[i]? = some x) (hj : (c x)[j]? = some u) : w.cell? (elA v (i * sz + j)) = some u :=
  h.cell hK (by rw [flat_get' hc zs i j x hz (by have := (List.getElem?_eq_some_iff.1 hj).1; rw [hc] at this; exact this)]; exact hj)
theorem rn_count {ls : List Ls} {ow now un : Int} {i : Nat} (hi : i < ls.length) : (ls.take (i + 1)).countP (rnw ow now un) = (ls.take i).countP (rnw ow now un) + (if rnw ow now un ls[i] then 1 else 0) := by
  rw [List.take_succ_eq_append_getElem hi, List.countP_append, List.countP_singleton]
theorem renew_none {ls : List Ls} {ow now un : Int} (h : renewN ls ow now un = 0) : renewL ls ow now un = ls := by
  unfold renewL
  unfold renewN at h
  rw [List.countP_eq_zero] at h
  conv => rhs; rw [← List.map_id ls]
  refine List.map_congr_left fun x hx => ?_
  unfold rn1
  rw [if_neg (h x hx)]; rfl
theorem rn_same {ls : List Ls} {ow now un : Int} {i : Nat} (hi : i < ls.length) : ((ls.take i).map (rn1 ow now un) ++ ls.drop i).set i ls[i] = (ls.take i).map (rn1 ow now un) ++ ls.drop i := by
  have h := rn_get (ow := ow) (now := now) (un := un) hi
  obtain ⟨h1, h2⟩ := List.getElem?_eq_some_iff.1 h
  conv => lhs; rw [← h2]
  exact List.set_getElem_self _
/-- a step of a world's scan -/
def scW (w : Wd) : Wd := if w.scan.1 < 64 ∧ 0 ≤ own w w.scan.1 then { w with scan := stp w.leases (keys w.items) w.scan } else w
/-- an event of the ring -/
noncomputable def rgO (r : List Nd) (kd a b : Int) : List Nd × Bool :=
  if kd = 1 then tk r (Pt a ∧ Pt b) (joinR r a b) else if kd = 2 then tk r (Pt a) (failR r a) else if kd = 3 then tk r (Pt a) (dropR r a)
  else if kd = 4 then tk r (Pt a) (adoptR r a) else if kd = 5 then tk r (Pt a ∧ Pt b) (closerR r a b) else if kd = 6 then tk r (Pt a ∧ Pt b) (notifyR r a b) else (r, false)
noncomputable def rgW (w : Wd) (kd a b : Int) : Wd := if (rgO w.ring kd a b).2 = true then { w with ring := (rgO w.ring kd a b).1 } else w
/-- an event of the leases -/
def utl (n : Int) : Int := min (n + 20) 999
noncomputable def leO (w : Wd) (kd a b c : Int) : List Ls × Bool :=
  if a ∉ ids w.ring then (w.leases, false)
  else if kd = 7 then (if c ∈ ids w.ring ∧ Pt b ∧ own w b = a then tkL w.leases (Pt a ∧ Pt b ∧ Pt c ∧ Tm (utl w.now)) (handL w.leases a b c (utl w.now)) else (w.leases, false))
  else if kd = 8 then tkL w.leases (Pt b ∧ Pt a ∧ Tm w.now ∧ Tm (utl w.now)) (takeL w.leases b a w.now (utl w.now))
  else if kd = 9 then (if Pt a then (renewL w.leases a w.now (utl w.now), true) else (w.leases, false)) else (w.leases, false)
noncomputable def leW (w : Wd) (kd a b c : Int) : Wd := if (leO w kd a b c).2 = true then { w with leases := (leO w kd a b c).1 } else w
theorem leW_no {w : Wd} {kd a b c : Int} {x : List Ls} (h : leO w kd a b c = (x, false)) : leW w kd a b c = w := if_neg (by rw [h]; simp)
theorem leW_yes {w : Wd} {kd a b c : Int} {x : List Ls} (h : leO w kd a b c = (x, true)) : leW w kd a b c = { w with leases := x } := by
  unfold leW; rw [h]; rfl
theorem leW_T {w : Wd} {kd a b c : Int} {o : List Ls × Bool} (h : leO w kd a b c = o) : (o.2 = true → { w with leases := o.1 } = leW w kd a b c) ∧ (o.2 = false → w = leW w kd a b c) := by
  unfold leW; rw [h]
  exact ⟨fun h => (if_pos h).symm, fun h => (if_neg (by rw [h]; simp)).symm⟩
theorem utl_tm {n : Int} (h : Tm n) : Tm (utl n) := by unfold utl; exact ⟨by have := h.1; omega, by omega⟩
/-- an event of the items -/
def itf (b c : Int) : Bool → List It → List It
  | p, [] => if p then [] else [(b, c)]
  | p, x :: xs => (if p = false ∧ b ≤ x.1 then [(b, c)] else []) ++ ((if x.1 ≠ b then [x] else []) ++ itf b c (p || decide (b ≤ x.1)) xs)
theorem itf_at {b c : Int} {p : Bool} {xs : List It} {i : Nat} (hi : i < xs.length) :
    itf b c p (xs.drop i) = (if p = false ∧ b ≤ xs[i].1 then [(b, c)] else []) ++ ((if xs[i].1 ≠ b then [xs[i]] else []) ++ itf b c (p || decide (b ≤ xs[i].1)) (xs.drop (i + 1))) := by
  rw [List.drop_eq_getElem_cons hi]; rfl
noncomputable def itW (w : Wd) (kd a b c : Int) : Wd :=
  if Pt b ∧ own w b = a ∧ 0 ≤ a ∧ (kd = 11 → 0 ≤ c ∧ c ≤ 99) then { w with items := itf b c (decide (kd = 12)) w.items, since := if kd = 12 then w.since.filter (fun x => decide (x ≠ b)) else w.since } else w
/-- an event of a world -/
noncomputable def doW (w : Wd) (kd a b c : Int) : Wd :=
  if kd = 7 ∨ kd = 8 ∨ kd = 9 then leW w kd a b c else if kd = 10 then { w with now := min (w.now + 1) 999 } else if kd = 11 ∨ kd = 12 then itW w kd a b c
  else if kd = 13 then { w with scan := (0, []), since := keys w.items } else if kd = 14 then scW w else rgW w kd a b
structure WdA (w : Wd) : Prop where
  now : Tm w.now
  ls : LsOk w.leases
  it : ItOk w.items
  sc : SnOk w.scan
  si : Asc w.since
theorem WdOk.wda {w : Wd} (h : WdOk w) : WdA w := ⟨h.1, h.2.2.1, h.2.2.2.1, h.2.2.2.2.1, h.2.2.2.2.2.1⟩
theorem WdA.zl {w : Wd} (h : WdA w) : w.items.length ≤ 64 := by have := h.it.2.len; rwa [keys_len] at this
theorem rgW_no {w : Wd} {kd a b : Int} (h : ¬ (1 ≤ kd ∧ kd ≤ 6)) : rgW w kd a b = w := by
  unfold rgW rgO
  rw [if_neg (show ¬ kd = 1 by omega), if_neg (show ¬ kd = 2 by omega), if_neg (show ¬ kd = 3 by omega), if_neg (show ¬ kd = 4 by omega), if_neg (show ¬ kd = 5 by omega), if_neg (show ¬ kd = 6 by omega)]
  exact if_neg (by simp)
end Go.Ro
