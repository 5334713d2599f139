/- Slices of slices; calls of function values. Conditions: those that each row states. -/
import Derived.Test.YtbkfnnifkdgbkaaPaM
namespace Go.Ro
open Go

/-! a slice whose elements are slices (or pointers) with a reading of their own -/
def ES {α : Type} (E : View → Value → α → Prop) (G : View) (cs : List Value) (x : α) : Prop := ∃ u, cs = [u] ∧ E G u x
abbrev SS {α : Type} (E : View → Value → α → Prop) := SlR 1 (ES E)
abbrev ISS := SS IntS
section
variable {α : Type} {E : View → Value → α → Prop} {G G' : View} {v : Value} {xs : List α}
theorem ES.mono (hm : ∀ u x, E G u x → E G' u x) {cs : List Value} {x : α} (h : ES E G cs x) : ES E G' cs x := let ⟨u, h1, h2⟩ := h; ⟨u, h1, hm u x h2⟩
theorem SS.mono (hm : ∀ u x, E G u x → E G' u x) (h : SS E G v xs) (hG : VLe G G') : SS E G' v xs := SlR.mono (fun _ _ => ES.mono hm) h hG
theorem SS.at (h : SS E G v xs) {i : Nat} (hi : i < xs.length) : ∃ u, cellV G (elA v i) = some u ∧ E G u xs[i] := by
  obtain ⟨cs, h1, h2, u, h3, h4⟩ := h.get hi
  refine ⟨u, ?_, h4⟩
  have := h2 0 u (by rw [h3]; rfl)
  simpa using this
end
theorem ISS.mono {G G' : View} {v : Value} {xs : List (List Int)} (h : ISS G v xs) (hG : VLe G G') : ISS G' v xs := SS.mono (fun _ _ h => IntS.mono h hG) h hG

/-- a slice that the walk owns joins the view -/
theorem K.pubS {α : Type} {E : View → List Value → α → Prop} {e w : World} {G : View} {L A : Own} {sz t : Nat} {v : Value} {cs : List Value} {xs : List α} (hm : ∀ {G G' cs x}, VLe G G' → E G cs x → E G' cs x)
    (hK : K e w G (A ++ L)) (ho : OS sz t v xs.length cs A) (hE : ∀ i x, xs[i]? = some x → ∃ u, u.length = sz ∧ (∀ j c, u[j]? = some c → cs[i * sz + j]? = some c) ∧ E G u x) :
    ∃ G', VLe G G' ∧ SlR sz E G' v xs ∧ K e w G' L := by
  refine ⟨addV G A, hK.addV_le, ?_, hK.pub⟩
  refine OS.pub ho ho.nodup fun i x hx => ?_
  obtain ⟨u, h1, h2, h3⟩ := hE i x hx
  exact ⟨u, h1, h2, hm hK.addV_le h3⟩
section
variable {P : Program} {n : Nat} {Q : Po} {f : Sl} {w : World} {ops : Array Oper} {rest : List Oper}
  {dst : Option Nat} {ty : TypeId} {pos : String} {af : Array Edge} {C : World → Prop} {R : Sl → Prop}

end
end Go.Ro
