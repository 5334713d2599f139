/- A slice of slices that the walk owns, inner ones and all. Conditions: those that each row states. -/
import Derived.Test.YtlpefeeadeocgaaMx
import Derived.Test.YtlpefeeadeocgaaRd
namespace Go.Ro
open Go
theorem count_sum {α : Type} [DecidableEq α] (a : α) : ∀ l : List α, l.count a = (l.map (fun x => if x = a then 1 else 0)).sum
  | [] => rfl
  | x :: l => by
    simp only [List.count_cons, List.map_cons, List.sum_cons, count_sum a l, beq_iff_eq]
    omega
/-- the same blocks in another order -/
theorem K.cnt {e w : World} {G : View} {L L' : Own} (hK : K e w G L) (h : ∀ f : Nat × Obj → Nat, (L'.map f).sum = (L.map f).sum) : K e w G L' := by
  classical
  refine hK.perm ((@List.perm_iff_count (Nat × Obj) instBEqOfDecidableEq inferInstance _ _).2 fun a => ?_)
  have := h (fun x => if x = a then 1 else 0)
  have h1 := count_sum a L
  have h2 := count_sum a L'
  exact h2.trans (this.trans h1.symm)
def OSS (t : TypeId) (us : List (Value × List Int × Own)) : Prop := ∀ p ∈ us, OS 1 t p.1 p.2.1.length (ints p.2.1) p.2.2
def vals (us : List (Value × List Int × Own)) : List Value := us.map (·.1)
def flat (us : List (Value × List Int × Own)) : Own := us.flatMap (·.2.2)
theorem K.reo {e w : World} {G : View} {L L' : Own} (hK : K e w G L) (h : ∀ f : Nat × Obj → Nat, (L'.map f).sum = (L.map f).sum := by intro f; simp only [List.map_append, List.map_cons, List.map_nil, List.sum_append, List.sum_cons, List.sum_nil]; omega) : K e w G L' := hK.cnt h
theorem om {p : Prop} (h : p := by first | omega | (simp only; omega)) : p := h
theorem kr {p : Prop} (h : p := by kernel_rfl) : p := h
theorem OSS.nil {t : TypeId} : OSS t [] := fun p hp => absurd hp (by simp)
theorem OSS.snoc {t : TypeId} {us : List (Value × List Int × Own)} (h : OSS t us) {v : Value} {xs : List Int} {A : Own} (ho : OS 1 t v xs.length (ints xs) A) : OSS t (us ++ [(v, xs, A)]) := by
  intro p hp
  rcases List.mem_append.1 hp with hp | hp
  · exact h p hp
  · rw [List.mem_singleton.1 hp]; exact ho
section
variable {P : Program} {n : Nat} {Q : Po} {f : Sl} {w : World} {ops : Array Oper} {rest : List Oper}
  {dst : Option Nat} {ty : TypeId} {pos : String} {af : Array Edge} {e : World} {G : View} {L A : Own}
end
theorem K.vle {e w : World} {G G' : View} {L : Own} (hK : K e w G' L) (hG : VLe G G') : K e w G L :=
  ⟨hK.tape, hK.os, hK.out, fun b o h => hK.view b o (hG b o h), hK.own, (fun b o h => by
    cases hb : G b with
    | none => rfl
    | some o' => have := hG b o' hb; rw [hK.sep b o h] at this; cases this), hK.nodup⟩
/-- the elements of a slice of slices, as values -/
theorem SS.list {α : Type} {E : View → Value → α → Prop} {G : View} {v : Value} {xs : List α} (h : SS E G v xs) :
    ∃ us : List Value, us.length = xs.length ∧ ∀ (i : Nat) (u : Value), us[i]? = some u → ∃ x, xs[i]? = some x ∧ cellV G (elA v i) = some u ∧ E G u x := by
  obtain ⟨us, h1, h2⟩ := choose_list (p := fun i u => ∃ x, xs[i]? = some x ∧ cellV G (elA v i) = some u ∧ E G u x) xs.length (fun i hi => by
    obtain ⟨u, hu, hx⟩ := h.at hi
    exact ⟨u, xs[i], List.getElem?_eq_getElem hi, hu, hx⟩)
  exact ⟨us, h1, h2⟩
end Go.Ro
