/- Reading structures: from the given statement's reading to plain lists. Rings in plain lists: what is valid, what is safe, and the steps of a ring. A step of a safe ring leaves it safe. Conditions: those that each row states. -/
import Derived.Test.YtmgggljicpmndaaGreatDoorRd
import Derived.Test.YtmgggljicpmndaaGreatDoorLs
import Derived.Test.YtmgggljicpmndaaGreatDoorSnM
namespace Go.Ro
open Go Go.ChangeShapes Go.WideShapes Go.RowKit
section
variable {H : Type} {enc : TypeId × Value → H} {P : Program} {w : World} {base : Nat} {spare : Nat → Bool} {held : Bool}
variable {t : TypeId} {fs : Array Field} {f : Field} {fuel i o : Nat} {cs : List Value} {x : DataW H × List MemPlace}
theorem read_field (ht : P.underlying t = some (.struct fs)) (hi : fs[i]? = some f) (ho : f.offset = o) (hc : P.cellsOf f.type = 1) (hcl : o < P.cellsOf t)
    (h : DataW.trod enc P w base spare held fuel t cs = some x) : ∃ m v y, cs[o]? = some v ∧ DataW.trod enc P w base spare held m f.type [v] = some y := by
  obtain ⟨xs, n, _, _, hcs, hl, hx⟩ := DataW.trod_struct ht h
  have h1 := hx i f hi
  have hlt : i < fs.size := by
    rcases Nat.lt_or_ge i fs.size with h | h
    · exact h
    · rw [Array.getElem?_eq_none h] at hi; cases hi
  rw [List.getElem?_eq_getElem (by omega), ho, hc] at h1
  cases hd : cs.drop o with
  | nil =>
    exfalso
    have := congrArg List.length hd
    simp at this
    omega
  | cons v r =>
    rw [hd] at h1
    refine ⟨n, v, _, ?_, h1⟩
    have := congrArg (fun l => l[0]?) hd
    simpa using this
theorem read_int (ht : P.underlying t = some (.struct fs)) (hi : fs[i]? = some f) (ho : f.offset = o) (hc : P.cellsOf f.type = 1) (hcl : o < P.cellsOf t) (hk : P.underlying f.type = some (.int .i64))
    (h : DataW.trod enc P w base spare held fuel t cs = some x) : ∃ n, cs[o]? = some (.int .i64 n) := by
  obtain ⟨m, v, y, h1, h2⟩ := read_field ht hi ho hc hcl h
  obtain ⟨n, h3, _⟩ := DataW.trod_int hk h2
  obtain rfl : v = .int .i64 n := by simpa using h3
  exact ⟨n, h1⟩
end
abbrev Nd := Int × Int × List Int
def btw (a x b : Int) : Bool := if a < b then decide (a < x ∧ x < b) else decide (a < x ∨ x < b)
def ids (r : List Nd) : List Int := r.map (·.1)
def a0 (x : Nd) : Int := x.2.2.getD 0 0
def a1 (x : Nd) : Int := x.2.2.getD 1 0
def NdOk (x : Nd) : Prop := Pt x.1 ∧ (x.2.1 = -1 ∨ Pt x.2.1) ∧ x.2.2.length = 2 ∧ ∀ k ∈ x.2.2, Pt k
def RgOk (r : List Nd) : Prop := r.length ≤ 10 ∧ (∀ x ∈ r, NdOk x) ∧ r.Pairwise (fun a b => (fun x : Nd => x.1) a < (fun x : Nd => x.1) b)
def skips : Int → List Int → Int → Bool
  | _, [], _ => false
  | a, b :: l, x => btw a x b || skips b l x
def skn (n : Nd) (x : Int) : Bool := skips n.1 n.2.2 x
def prin (r : List Nd) : List Int := (ids r).filter (fun k => !(r.any (fun n => skn n k)))
def RgSafe (r : List Nd) : Prop := RgOk r ∧ (∀ x ∈ r, ∃ k ∈ x.2.2, k ∈ ids r) ∧ 3 ≤ (prin r).length
def fx (r : List Nd) (id : Int) : Nat := r.findIdx (fun x => x.1 == id)
def ndAt (r : List Nd) (id : Int) : Nd := r.getD (fx r id) (0, 0, [])
theorem fx_lt {r : List Nd} {id : Int} (h : id ∈ ids r) : fx r id < r.length := by
  obtain ⟨x, hx, rfl⟩ := List.mem_map.1 h
  exact List.findIdx_lt_length_of_exists ⟨x, hx, by simp⟩
theorem ndAt_eq {r : List Nd} {id : Int} (h : id ∈ ids r) : r[fx r id]'(fx_lt h) = ndAt r id := by
  unfold ndAt; rw [List.getD_eq_getElem?_getD, List.getElem?_eq_getElem (fx_lt h)]; rfl
theorem ndAt_id {r : List Nd} {id : Int} (h : id ∈ ids r) : (ndAt r id).1 = id := by
  rw [← ndAt_eq h]
  have := List.findIdx_getElem (p := fun x : Nd => x.1 == id) (w := fx_lt h)
  exact eq_of_beq this
theorem ndAt_mem {r : List Nd} {id : Int} (h : id ∈ ids r) : ndAt r id ∈ r := by
  rw [← ndAt_eq h]; exact List.getElem_mem _
theorem fx_eq {r : List Nd} {id : Int} {i : Nat} (hi : i < r.length) (h1 : ∀ x ∈ r.take i, x.1 ≠ id) (h2 : r[i].1 = id) : fx r id = i := by
  unfold fx
  rw [List.findIdx_eq hi]
  refine ⟨by simpa using h2, fun j hj => ?_⟩
  have := h1 r[j] (List.mem_take_iff_getElem.2 ⟨j, by omega, rfl⟩)
  simpa using this
theorem ids_set {r : List Nd} {i : Nat} {n : Nd} (h : ∀ x, r[i]? = some x → n.1 = x.1) : ids (r.set i n) = ids r := by
  unfold ids
  apply List.ext_getElem?
  intro j
  rw [List.getElem?_map, List.getElem?_map, List.getElem?_set]
  split
  · rename_i hij
    subst hij
    split
    · rename_i hi
      rw [List.getElem?_eq_getElem hi] at h ⊢
      simp [h _ rfl]
    · rename_i hi
      rw [List.getElem?_eq_none (by omega)]
  · rfl
def setN (r : List Nd) (id : Int) (n : Nd) : List Nd := r.set (fx r id) n
def joinR (r : List Nd) (id at' : Int) : Option (List Nd) :=
  if id ∉ ids r ∧ at' ∈ ids r ∧ r.length ≠ 10 ∧ btw at' id (a0 (ndAt r at')) = true then
    some (r.takeWhile (fun x => decide (x.1 < id)) ++ (id, at', (ndAt r at').2.2) :: r.dropWhile (fun x => decide (x.1 < id))) else none
noncomputable def failR (r : List Nd) (id : Int) : Option (List Nd) :=
  if id ∈ ids r ∧ dec (RgSafe (r.filter (fun x => decide (x.1 ≠ id)))) = true then some (r.filter (fun x => decide (x.1 ≠ id))) else none
def dropR (r : List Nd) (id : Int) : Option (List Nd) :=
  if id ∈ ids r ∧ a0 (ndAt r id) ∉ ids r then some (setN r id (id, (ndAt r id).2.1, [a1 (ndAt r id), (a1 (ndAt r id) + 1) % 64])) else none
def foll (r : List Nd) (id s : Int) : List Nd := setN r id (id, (ndAt r id).2.1, [s, a0 (ndAt r s)])
def adoptR (r : List Nd) (id : Int) : Option (List Nd) :=
  if id ∈ ids r ∧ a0 (ndAt r id) ∈ ids r then some (foll r id (a0 (ndAt r id))) else none
def closerR (r : List Nd) (id other : Int) : Option (List Nd) :=
  if id ∈ ids r ∧ other ∈ ids r ∧ btw id other (a0 (ndAt r id)) = true then some (foll r id other) else none
def notifyR (r : List Nd) (id other : Int) : Option (List Nd) :=
  if id ∈ ids r ∧ other ≠ id ∧ other ∈ ids r ∧ ((ndAt r id).2.1 = -1 ∨ (ndAt r id).2.1 ∉ ids r ∨ btw (ndAt r id).2.1 other id = true) then
    some (setN r id (id, other, (ndAt r id).2.2)) else none
noncomputable def tk (r : List Nd) (ok : Prop) (o : Option (List Nd)) : List Nd × Bool :=
  if dec (RgSafe r ∧ ok) = true then (match o with | some x => (x, true) | none => (r, false)) else ([], false)
theorem tk_no {r : List Nd} {ok : Prop} {o : Option (List Nd)} (h : ¬ (RgSafe r ∧ ok)) : tk r ok o = ([], false) := by
  unfold tk; rw [if_neg (by rw [dec_f h]; simp)]
theorem tk_none {r : List Nd} {ok : Prop} (h : RgSafe r ∧ ok) : tk r ok none = (r, false) := by
  unfold tk; rw [if_pos (dec_t h)]
theorem tk_some {r x : List Nd} {ok : Prop} (h : RgSafe r ∧ ok) : tk r ok (some x) = (x, true) := by
  unfold tk; rw [if_pos (dec_t h)]
theorem dropR_no {r : List Nd} {id : Int} (h : ¬ (id ∈ ids r ∧ a0 (ndAt r id) ∉ ids r)) : dropR r id = none := if_neg h
theorem dropR_yes {r : List Nd} {id : Int} (h : id ∈ ids r ∧ a0 (ndAt r id) ∉ ids r) : dropR r id = some (setN r id (id, (ndAt r id).2.1, [a1 (ndAt r id), (a1 (ndAt r id) + 1) % 64])) := if_pos h
theorem adoptR_no {r : List Nd} {id : Int} (h : ¬ (id ∈ ids r ∧ a0 (ndAt r id) ∈ ids r)) : adoptR r id = none := if_neg h
theorem adoptR_yes {r : List Nd} {id : Int} (h : id ∈ ids r ∧ a0 (ndAt r id) ∈ ids r) : adoptR r id = some (foll r id (a0 (ndAt r id))) := if_pos h
theorem closerR_no {r : List Nd} {id other : Int} (h : ¬ (id ∈ ids r ∧ other ∈ ids r ∧ btw id other (a0 (ndAt r id)) = true)) : closerR r id other = none := if_neg h
theorem closerR_yes {r : List Nd} {id other : Int} (h : id ∈ ids r ∧ other ∈ ids r ∧ btw id other (a0 (ndAt r id)) = true) : closerR r id other = some (foll r id other) := if_pos h
theorem notifyR_no {r : List Nd} {id other : Int} (h : ¬ (id ∈ ids r ∧ other ≠ id ∧ other ∈ ids r ∧ ((ndAt r id).2.1 = -1 ∨ (ndAt r id).2.1 ∉ ids r ∨ btw (ndAt r id).2.1 other id = true))) : notifyR r id other = none := if_neg h
theorem notifyR_yes {r : List Nd} {id other : Int} (h : id ∈ ids r ∧ other ≠ id ∧ other ∈ ids r ∧ ((ndAt r id).2.1 = -1 ∨ (ndAt r id).2.1 ∉ ids r ∨ btw (ndAt r id).2.1 other id = true)) : notifyR r id other = some (setN r id (id, other, (ndAt r id).2.2)) := if_pos h
theorem joinR_no {r : List Nd} {id at' : Int} (h : ¬ (id ∉ ids r ∧ at' ∈ ids r ∧ r.length ≠ 10 ∧ btw at' id (a0 (ndAt r at')) = true)) : joinR r id at' = none := if_neg h
theorem joinR_yes {r : List Nd} {id at' : Int} (h : id ∉ ids r ∧ at' ∈ ids r ∧ r.length ≠ 10 ∧ btw at' id (a0 (ndAt r at')) = true) : joinR r id at' = some (r.takeWhile (fun x => decide (x.1 < id)) ++ (id, at', (ndAt r at').2.2) :: r.dropWhile (fun x => decide (x.1 < id))) := if_pos h
theorem failR_no {r : List Nd} {id : Int} (h : ¬ (id ∈ ids r ∧ RgSafe (r.filter (fun x => decide (x.1 ≠ id))))) : failR r id = none := by
  unfold failR; exact if_neg fun g => h ⟨g.1, of_dec g.2⟩
theorem failR_yes {r : List Nd} {id : Int} (h : id ∈ ids r ∧ RgSafe (r.filter (fun x => decide (x.1 ≠ id)))) : failR r id = some (r.filter (fun x => decide (x.1 ≠ id))) := by
  unfold failR; exact if_pos ⟨h.1, dec_t h.2⟩
theorem RgOk.pw {r : List Nd} (h : RgOk r) : (ids r).Pairwise (· < ·) := List.pairwise_map.2 h.2.2
theorem RgOk.ptId {r : List Nd} (h : RgOk r) {k : Int} (hk : k ∈ ids r) : Pt k := by
  obtain ⟨x, hx, rfl⟩ := List.mem_map.1 hk; exact (h.2.1 x hx).1
theorem skn2 {n : Nd} (h : n.2.2.length = 2) (k : Int) : skn n k = (btw n.1 k (a0 n) || btw (a0 n) k (a1 n)) := by
  obtain ⟨i, b, l⟩ := n
  match l, h with
  | [p, q], _ => simp [skn, skips, a0, a1]
theorem a0_mem {n : Nd} (h : n.2.2.length = 2) : a0 n ∈ n.2.2 := by
  obtain ⟨i, b, l⟩ := n
  match l, h with
  | [p, q], _ => simp [a0]
theorem a1_mem {n : Nd} (h : n.2.2.length = 2) : a1 n ∈ n.2.2 := by
  obtain ⟨i, b, l⟩ := n
  match l, h with
  | [p, q], _ => simp [a1]
theorem aft2 {n : Nd} (h : n.2.2.length = 2) : n.2.2 = [a0 n, a1 n] := by
  obtain ⟨i, b, l⟩ := n
  match l, h with
  | [p, q], _ => simp [a0, a1]
theorem prin_le {r r' : List Nd} (h1 : (ids r).Sublist (ids r')) (h2 : ∀ n' ∈ r', ∀ k ∈ ids r, skn n' k = true → ∃ n ∈ r, skn n k = true) : (prin r).length ≤ (prin r').length := by
  unfold prin
  rw [← List.countP_eq_length_filter, ← List.countP_eq_length_filter]
  refine Nat.le_trans (List.countP_mono_left (q := fun k => !(r'.any (fun n => skn n k))) ?_) (h1.countP_le)
  intro k hk hp
  simp only [Bool.not_eq_true', List.any_eq_false] at hp ⊢
  intro n' hn' hs
  obtain ⟨n, hn, hs⟩ := h2 n' hn' k hk hs
  exact hp n hn hs
theorem ids_setN {r : List Nd} {id : Int} {n : Nd} (hid : id ∈ ids r) (h : n.1 = id) : ids (setN r id n) = ids r := by
  unfold setN
  refine ids_set fun x hx => ?_
  rw [List.getElem?_eq_getElem (fx_lt hid), ndAt_eq hid] at hx
  obtain rfl := Option.some.inj hx
  rw [h, ndAt_id hid]
theorem RgSafe.set {r : List Nd} {id : Int} {n' : Nd} (h : RgSafe r) (hid : id ∈ ids r) (hn : NdOk n') (h1 : n'.1 = id) (hl : ∃ k ∈ n'.2.2, k ∈ ids r)
    (hs : ∀ k ∈ ids r, skn n' k = true → ∃ n ∈ r, skn n k = true) : RgSafe (setN r id n') := by
  have hi := ids_setN hid h1
  have hm : ∀ x ∈ setN r id n', x = n' ∨ x ∈ r := fun x hx => by
    rcases List.mem_or_eq_of_mem_set hx with h | h
    · exact .inr h
    · exact .inl h
  refine ⟨⟨by unfold setN; rw [List.length_set]; exact h.1.1, fun x hx => ?_, ?_⟩, fun x hx => ?_, ?_⟩
  · rcases hm x hx with rfl | hx
    · exact hn
    · exact h.1.2.1 x hx
  · have := h.1.pw; rw [← hi] at this; exact List.pairwise_map.1 this
  · rw [hi]
    rcases hm x hx with rfl | hx
    · exact hl
    · exact h.2.1 x hx
  · refine Nat.le_trans h.2.2 (prin_le (by rw [hi]; exact List.Sublist.refl _) fun x hx k hk hsk => ?_)
    rcases hm x hx with rfl | hx
    · exact hs k hk hsk
    · exact ⟨x, hx, hsk⟩
theorem NdOk.a0 {x : Nd} (h : NdOk x) : Pt (a0 x) := h.2.2.2 _ (a0_mem h.2.2.1)
theorem NdOk.a1 {x : Nd} (h : NdOk x) : Pt (a1 x) := h.2.2.2 _ (a1_mem h.2.2.1)
theorem dropR_safe {r x : List Nd} {id : Int} (h : RgSafe r) (hx : dropR r id = some x) : RgSafe x := by
  unfold dropR at hx
  split at hx
  · rename_i hc
    obtain rfl := Option.some.inj hx
    have hm := ndAt_mem hc.1
    have hok := h.1.2.1 _ hm
    have h0 := hok.a0
    have h1 := hok.a1
    have hid := h.1.ptId hc.1
    have hlive : a1 (ndAt r id) ∈ ids r := by
      obtain ⟨k, hk, hk'⟩ := h.2.1 _ hm
      rw [aft2 hok.2.2.1] at hk
      simp only [List.mem_cons, List.not_mem_nil, or_false] at hk
      rcases hk with rfl | rfl
      · exact absurd hk' hc.2
      · exact hk'
    refine h.set hc.1 ⟨hid, hok.2.1, rfl, ?_⟩ rfl ⟨_, List.mem_cons_self .., hlive⟩ ?_
    · intro k hk
      simp only [List.mem_cons, List.not_mem_nil, or_false] at hk
      rcases hk with rfl | rfl
      · exact h1
      · exact ⟨by omega, by omega⟩
    · intro k hk hs
      refine ⟨_, hm, ?_⟩
      have hkp := h.1.ptId hk
      have hne : k ≠ a0 (ndAt r id) := fun e => hc.2 (e ▸ hk)
      have hne2 : id ≠ a0 (ndAt r id) := fun e => hc.2 (e ▸ hc.1)
      rw [skn2 rfl] at hs
      rw [skn2 hok.2.2.1, ndAt_id hc.1]
      have e0 : Go.Ro.a0 (id, (ndAt r id).2.1, [a1 (ndAt r id), (a1 (ndAt r id) + 1) % 64]) = a1 (ndAt r id) := rfl
      have e1 : Go.Ro.a1 (id, (ndAt r id).2.1, [a1 (ndAt r id), (a1 (ndAt r id) + 1) % 64]) = (a1 (ndAt r id) + 1) % 64 := rfl
      rw [e0, e1] at hs
      generalize a0 (ndAt r id) = p at *
      generalize a1 (ndAt r id) = q at *
      simp only [Bool.or_eq_true] at hs ⊢
      unfold btw at *
      rcases hs with hs | hs <;> (repeat' split at hs) <;> simp only [decide_eq_true_eq] at hs <;> (repeat' split) <;> simp only [decide_eq_true_eq] <;> omega
  · cases hx
theorem foll_safe {r : List Nd} {id s : Int} (h : RgSafe r) (hid : id ∈ ids r) (hs : s ∈ ids r)
    (hb : ∀ k ∈ ids r, btw id k s = true → skn (ndAt r id) k = true) : RgSafe (foll r id s) := by
  have hm := ndAt_mem hid
  have hok := h.1.2.1 _ hm
  have hm2 := ndAt_mem hs
  have hok2 := h.1.2.1 _ hm2
  refine h.set hid ⟨h.1.ptId hid, hok.2.1, rfl, ?_⟩ rfl ⟨_, List.mem_cons_self .., hs⟩ ?_
  · intro k hk
    simp only [List.mem_cons, List.not_mem_nil, or_false] at hk
    rcases hk with rfl | rfl
    · exact h.1.ptId hs
    · exact hok2.a0
  · intro k hk hsk
    rw [skn2 rfl] at hsk
    have e0 : a0 (id, (ndAt r id).2.1, [s, a0 (ndAt r s)]) = s := rfl
    have e1 : a1 (id, (ndAt r id).2.1, [s, a0 (ndAt r s)]) = a0 (ndAt r s) := rfl
    rw [e0, e1] at hsk
    simp only [Bool.or_eq_true] at hsk
    rcases hsk with hsk | hsk
    · exact ⟨_, hm, hb k hk hsk⟩
    · refine ⟨_, hm2, ?_⟩
      rw [skn2 hok2.2.2.1, ndAt_id hs, hsk]; rfl
theorem adoptR_safe {r x : List Nd} {id : Int} (h : RgSafe r) (hx : adoptR r id = some x) : RgSafe x := by
  unfold adoptR at hx
  split at hx
  · rename_i hc
    obtain rfl := Option.some.inj hx
    refine foll_safe h hc.1 hc.2 fun k _ hb => ?_
    rw [skn2 (h.1.2.1 _ (ndAt_mem hc.1)).2.2.1, ndAt_id hc.1, hb]; rfl
  · cases hx
theorem closerR_safe {r x : List Nd} {id other : Int} (h : RgSafe r) (hx : closerR r id other = some x) : RgSafe x := by
  unfold closerR at hx
  split at hx
  · rename_i hc
    obtain rfl := Option.some.inj hx
    refine foll_safe h hc.1 hc.2.1 fun k hk hb => ?_
    have hok := h.1.2.1 _ (ndAt_mem hc.1)
    have h0 := hok.a0
    have h1 := h.1.ptId hc.1
    have h2 := h.1.ptId hc.2.1
    have h3 := h.1.ptId hk
    have h4 := hc.2.2
    rw [skn2 hok.2.2.1, ndAt_id hc.1]
    simp only [Bool.or_eq_true]
    left
    generalize a0 (ndAt r id) = p at *
    unfold btw at *
    (repeat' split at hb) <;> simp only [decide_eq_true_eq] at hb <;> (repeat' split at h4) <;> simp only [decide_eq_true_eq] at h4 <;> (repeat' split) <;> simp only [decide_eq_true_eq] <;> omega
  · cases hx
theorem notifyR_safe {r x : List Nd} {id other : Int} (h : RgSafe r) (hx : notifyR r id other = some x) : RgSafe x := by
  unfold notifyR at hx
  split at hx
  · rename_i hc
    obtain rfl := Option.some.inj hx
    have hm := ndAt_mem hc.1
    have hok := h.1.2.1 _ hm
    refine h.set hc.1 ⟨h.1.ptId hc.1, .inr (h.1.ptId hc.2.2.1), hok.2.2.1, hok.2.2.2⟩ rfl (show ∃ k ∈ (ndAt r id).2.2, k ∈ ids r from h.2.1 _ hm) fun k _ hs => ⟨_, hm, ?_⟩
    have : skn (ndAt r id) k = skips id (ndAt r id).2.2 k := by unfold skn; rw [ndAt_id hc.1]
    rw [this]; exact hs
  · cases hx
theorem failR_safe {r x : List Nd} {id : Int} (hx : failR r id = some x) : RgSafe x := by
  unfold failR at hx
  split at hx
  · rename_i hc
    obtain rfl := Option.some.inj hx
    exact of_dec hc.2
  · cases hx
theorem ins_split {r : List Nd} (id : Int) (f : Nd) : (r.takeWhile (fun x => decide (x.1 < id)) ++ f :: r.dropWhile (fun x => decide (x.1 < id))).Perm (f :: r) := by
  refine List.perm_middle.trans (List.Perm.cons _ ?_)
  rw [List.takeWhile_append_dropWhile]
theorem mem_ins {r : List Nd} {id : Int} {f x : Nd} : x ∈ r.takeWhile (fun x => decide (x.1 < id)) ++ f :: r.dropWhile (fun x => decide (x.1 < id)) ↔ x = f ∨ x ∈ r := by
  rw [(ins_split id f).mem_iff]; simp
theorem pw_ins {r : List Nd} {id : Int} {f : Nd} (hf : f.1 = id) (h : (ids r).Pairwise (· < ·)) (hn : id ∉ ids r) :
    (ids (r.takeWhile (fun x => decide (x.1 < id)) ++ f :: r.dropWhile (fun x => decide (x.1 < id)))).Pairwise (· < ·) := by
  induction r with
  | nil => simp [ids]
  | cons a r ih =>
    simp only [ids, List.map_cons, List.mem_cons, not_or] at hn h
    rw [List.pairwise_cons] at h
    by_cases ha : a.1 < id
    · rw [List.takeWhile_cons_of_pos (by simpa using ha), List.dropWhile_cons_of_pos (by simpa using ha)]
      have := ih h.2 hn.2
      simp only [ids, List.cons_append, List.map_cons, List.pairwise_cons] at this ⊢
      refine ⟨fun b hb => ?_, this⟩
      obtain ⟨x, hx, rfl⟩ := List.mem_map.1 hb
      rcases mem_ins.1 hx with rfl | hx
      · omega
      · exact h.1 _ (List.mem_map.2 ⟨x, hx, rfl⟩)
    · rw [List.takeWhile_cons_of_neg (by simpa using ha), List.dropWhile_cons_of_neg (by simpa using ha)]
      simp only [ids, List.nil_append, List.map_cons, List.pairwise_cons]
      refine ⟨fun b hb => ?_, h⟩
      rcases List.mem_cons.1 hb with rfl | hb
      · omega
      · have := h.1 b hb; omega
theorem joinR_safe {r x : List Nd} {id at' : Int} (h : RgSafe r) (hid : Pt id) (hx : joinR r id at' = some x) : RgSafe x := by
  unfold joinR at hx
  split at hx
  · rename_i hc
    obtain rfl := Option.some.inj hx
    have hm := ndAt_mem hc.2.1
    have hok := h.1.2.1 _ hm
    have hsub : (ids r).Sublist (ids (r.takeWhile (fun x => decide (x.1 < id)) ++ (id, at', (ndAt r at').2.2) :: r.dropWhile (fun x => decide (x.1 < id)))) := by
      have h1 : r.Sublist (r.takeWhile (fun x => decide (x.1 < id)) ++ (id, at', (ndAt r at').2.2) :: r.dropWhile (fun x => decide (x.1 < id))) := by
        have h2 := List.Sublist.append (List.Sublist.refl (r.takeWhile (fun x => decide (x.1 < id)))) (List.sublist_cons_self (id, at', (ndAt r at').2.2) (r.dropWhile (fun x => decide (x.1 < id))))
        rwa [List.takeWhile_append_dropWhile] at h2
      exact h1.map _
    refine ⟨⟨?_, fun x hx => ?_, List.pairwise_map.1 (pw_ins rfl h.1.pw hc.1)⟩, fun x hx => ?_, ?_⟩
    · rw [(ins_split id _).length_eq]
      have := h.1.1
      have := hc.2.2.1
      simp only [List.length_cons]; omega
    · rcases mem_ins.1 hx with rfl | hx
      · exact ⟨hid, .inr (h.1.ptId hc.2.1), hok.2.2.1, hok.2.2.2⟩
      · exact h.1.2.1 x hx
    · have hh : ∀ n ∈ r, ∃ k ∈ n.2.2, k ∈ ids (r.takeWhile (fun x => decide (x.1 < id)) ++ (id, at', (ndAt r at').2.2) :: r.dropWhile (fun x => decide (x.1 < id))) := fun n hn => by
        obtain ⟨k, h1, h2⟩ := h.2.1 n hn; exact ⟨k, h1, hsub.subset h2⟩
      rcases mem_ins.1 hx with rfl | hx
      · exact hh (ndAt r at') hm
      · exact hh x hx
    · refine Nat.le_trans h.2.2 (prin_le hsub fun x hx k hk hs => ?_)
      rcases mem_ins.1 hx with rfl | hx
      · refine ⟨_, hm, ?_⟩
        have h0 := hok.a0
        have h1 := h.1.ptId hc.2.1
        have h3 := h.1.ptId hk
        have h4 := hc.2.2.2
        have h5 : k ≠ id := fun e => hc.1 (e ▸ hk)
        rw [skn2 (n := (id, at', (ndAt r at').2.2)) hok.2.2.1] at hs
        rw [skn2 hok.2.2.1, ndAt_id hc.2.1]
        have e0 : a0 (id, at', (ndAt r at').2.2) = a0 (ndAt r at') := rfl
        have e1 : a1 (id, at', (ndAt r at').2.2) = a1 (ndAt r at') := rfl
        rw [e0, e1] at hs
        simp only [Bool.or_eq_true] at hs ⊢
        rcases hs with hs | hs
        · left
          generalize a0 (ndAt r at') = p at *
          unfold btw at *
          (repeat' split at hs) <;> simp only [decide_eq_true_eq] at hs <;> (repeat' split at h4) <;> simp only [decide_eq_true_eq] at h4 <;> (repeat' split) <;> simp only [decide_eq_true_eq] <;> omega
        · exact .inr hs
      · exact ⟨x, hx, hs⟩
  · cases hx
end Go.Ro
