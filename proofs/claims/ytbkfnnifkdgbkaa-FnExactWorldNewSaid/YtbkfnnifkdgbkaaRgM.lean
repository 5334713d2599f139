/- Rings in plain lists: what is valid, what is safe, and the steps of a ring. Conditions: those that each row states. -/
import Derived.Test.YtbkfnnifkdgbkaaSnM
namespace Go.Ro

abbrev Nd := Int × Int × List Int
def btw (a x b : Int) : Bool := if a < b then decide (a < x ∧ x < b) else decide (a < x ∨ x < b)
def ids (r : List Nd) : List Int := r.map (·.1)
def a0 (x : Nd) : Int := x.2.2.getD 0 0
def a1 (x : Nd) : Int := x.2.2.getD 1 0
def NdOk (x : Nd) : Prop := Pt x.1 ∧ (x.2.1 = -1 ∨ Pt x.2.1) ∧ x.2.2.length = 2 ∧ ∀ k ∈ x.2.2, Pt k
def RgOk (r : List Nd) : Prop := r.length ≤ 10 ∧ (∀ x ∈ r, NdOk x) ∧ r.Pairwise (fun a b => (fun x : Nd => x.1) a < (fun x : Nd => x.1) b)
def skips : Int → List Int → Int → Bool
  | _, [], _ => false
  | a, b :: l, x => btw a x b || skips b l x
def skn (n : Nd) (x : Int) : Bool := skips n.1 n.2.2 x
def prin (r : List Nd) : List Int := (ids r).filter (fun k => !(r.any (fun n => skn n k)))
def RgSafe (r : List Nd) : Prop := RgOk r ∧ (∀ x ∈ r, ∃ k ∈ x.2.2, k ∈ ids r) ∧ 3 ≤ (prin r).length

/-- the place of a node -/
def fx (r : List Nd) (id : Int) : Nat := r.findIdx (fun x => x.1 == id)
def ndAt (r : List Nd) (id : Int) : Nd := r.getD (fx r id) (0, 0, [])

theorem fx_lt {r : List Nd} {id : Int} (h : id ∈ ids r) : fx r id < r.length := by
  obtain ⟨x, hx, rfl⟩ := List.mem_map.1 h
  exact List.findIdx_lt_length_of_exists ⟨x, hx, by simp⟩
theorem ndAt_eq {r : List Nd} {id : Int} (h : id ∈ ids r) : r[fx r id]'(fx_lt h) = ndAt r id := by
  unfold ndAt; rw [List.getD_eq_getElem?_getD, List.getElem?_eq_getElem (fx_lt h)]; rfl
theorem ndAt_id {r : List Nd} {id : Int} (h : id ∈ ids r) : (ndAt r id).1 = id := by
  rw [← ndAt_eq h]
  have := List.findIdx_getElem (p := fun x : Nd => x.1 == id) (w := fx_lt h)
  exact eq_of_beq this
theorem ids_set {r : List Nd} {i : Nat} {n : Nd} (h : ∀ x, r[i]? = some x → n.1 = x.1) : ids (r.set i n) = ids r := by
  unfold ids
  apply List.ext_getElem?
  intro j
  rw [List.getElem?_map, List.getElem?_map, List.getElem?_set]
  split
  · rename_i hij
    subst hij
    split
    · rename_i hi
      rw [List.getElem?_eq_getElem hi] at h ⊢
      simp [h _ rfl]
    · rename_i hi
      rw [List.getElem?_eq_none (by omega)]
  · rfl

/-- the steps: what the ring becomes, or nothing where the step is refused -/
def setN (r : List Nd) (id : Int) (n : Nd) : List Nd := r.set (fx r id) n
def joinR (r : List Nd) (id at' : Int) : Option (List Nd) :=
  if id ∉ ids r ∧ at' ∈ ids r ∧ r.length ≠ 10 ∧ btw at' id (a0 (ndAt r at')) = true then
    some (r.takeWhile (fun x => decide (x.1 < id)) ++ (id, at', (ndAt r at').2.2) :: r.dropWhile (fun x => decide (x.1 < id))) else none
noncomputable def failR (r : List Nd) (id : Int) : Option (List Nd) :=
  if id ∈ ids r ∧ dec (RgSafe (r.filter (fun x => decide (x.1 ≠ id)))) = true then some (r.filter (fun x => decide (x.1 ≠ id))) else none
def dropR (r : List Nd) (id : Int) : Option (List Nd) :=
  if id ∈ ids r ∧ a0 (ndAt r id) ∉ ids r then some (setN r id (id, (ndAt r id).2.1, [a1 (ndAt r id), (a1 (ndAt r id) + 1) % 64])) else none
def foll (r : List Nd) (id s : Int) : List Nd := setN r id (id, (ndAt r id).2.1, [s, a0 (ndAt r s)])
def adoptR (r : List Nd) (id : Int) : Option (List Nd) :=
  if id ∈ ids r ∧ a0 (ndAt r id) ∈ ids r then some (foll r id (a0 (ndAt r id))) else none
def closerR (r : List Nd) (id other : Int) : Option (List Nd) :=
  if id ∈ ids r ∧ other ∈ ids r ∧ btw id other (a0 (ndAt r id)) = true then some (foll r id other) else none
def notifyR (r : List Nd) (id other : Int) : Option (List Nd) :=
  if id ∈ ids r ∧ other ≠ id ∧ other ∈ ids r ∧ ((ndAt r id).2.1 = -1 ∨ (ndAt r id).2.1 ∉ ids r ∨ btw (ndAt r id).2.1 other id = true) then
    some (setN r id (id, other, (ndAt r id).2.2)) else none

/-- what a step answers -/
noncomputable def tk (r : List Nd) (ok : Prop) (o : Option (List Nd)) : List Nd × Bool :=
  if dec (RgSafe r ∧ ok) = true then (match o with | some x => (x, true) | none => (r, false)) else ([], false)
end Go.Ro
