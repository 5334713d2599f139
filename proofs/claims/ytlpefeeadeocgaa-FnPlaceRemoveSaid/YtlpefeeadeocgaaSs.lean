/- Slices of slices; calls of function values. Conditions: those that each row states. -/
import Derived.Test.YtlpefeeadeocgaaMp
namespace Go.Ro
open Go

/-! a slice whose elements are slices (or pointers) with a reading of their own -/
def ES {α : Type} (E : View → Value → α → Prop) (G : View) (cs : List Value) (x : α) : Prop := ∃ u, cs = [u] ∧ E G u x
abbrev SS {α : Type} (E : View → Value → α → Prop) := SlR 1 (ES E)
abbrev ISS := SS IntS
section
variable {α : Type} {E : View → Value → α → Prop} {G G' : View} {v : Value} {xs : List α}
theorem ES.mono (hm : ∀ u x, E G u x → E G' u x) {cs : List Value} {x : α} (h : ES E G cs x) : ES E G' cs x := let ⟨u, h1, h2⟩ := h; ⟨u, h1, hm u x h2⟩
theorem SS.mono (hm : ∀ u x, E G u x → E G' u x) (h : SS E G v xs) (hG : VLe G G') : SS E G' v xs := SlR.mono (fun _ _ => ES.mono hm) h hG
theorem SS.at (h : SS E G v xs) {i : Nat} (hi : i < xs.length) : ∃ u, cellV G (elA v i) = some u ∧ E G u xs[i] := by
  obtain ⟨cs, h1, h2, u, h3, h4⟩ := h.get hi
  refine ⟨u, ?_, h4⟩
  have := h2 0 u (by rw [h3]; rfl)
  simpa using this
end
theorem ISS.mono {G G' : View} {v : Value} {xs : List (List Int)} (h : ISS G v xs) (hG : VLe G G') : ISS G' v xs := SS.mono (fun _ _ h => IntS.mono h hG) h hG

/-- a slice that the walk owns joins the view -/
theorem K.pubS {α : Type} {E : View → List Value → α → Prop} {e w : World} {G : View} {L A : Own} {sz t : Nat} {v : Value} {cs : List Value} {xs : List α} (hm : ∀ {G G' cs x}, VLe G G' → E G cs x → E G' cs x)
    (hK : K e w G (A ++ L)) (ho : OS sz t v xs.length cs A) (hE : ∀ i x, xs[i]? = some x → ∃ u, u.length = sz ∧ (∀ j c, u[j]? = some c → cs[i * sz + j]? = some c) ∧ E G u x) :
    ∃ G', VLe G G' ∧ SlR sz E G' v xs ∧ K e w G' L := by
  refine ⟨addV G A, hK.addV_le, ?_, hK.pub⟩
  refine OS.pub ho ho.nodup fun i x hx => ?_
  obtain ⟨u, h1, h2, h3⟩ := hE i x hx
  exact ⟨u, h1, h2, hm hK.addV_le h3⟩
section
variable {P : Program} {n : Nat} {Q : Po} {f : Sl} {w : World} {ops : Array Oper} {rest : List Oper}
  {dst : Option Nat} {ty : TypeId} {pos : String} {af : Array Edge} {C : World → Prop} {R : Sl → Prop}

theorem mkf {F : FuncId} {l : List Operand} {vs : List Value} (ha : l.map (ev n f) = vs) {g : Option (Nat × Bool)} :
    St P n ⟨dst, .makeFunc (.func F) #[] l.toArray, ty, pos, af, g⟩ f w (.func (.func F) #[] vs.toArray) w := by
  unfold St execOp
  simp [Instr.makeFunc, ha]
/-- a call of a function value -/
theorem cf {F : FuncId} {x : Operand} {l : List Operand} {ts : Array TypeId} {vs cap : List Value} {S : Value → World → Prop} (hf : ∀ args w, (callFunc F args).run P w = .ok (.enter F args) w)
    (hx : ev n f x = .func (.func F) #[] cap.toArray) (ha : l.map (ev n f) = vs) (hc : Ret P F (vs ++ cap).toArray w S)
    (h : ∀ v w', S v w' → WL P n ops Q rest (updO f dst v) w') :
    WL P n ops Q (⟨dst, .call ⟨.value x, l.toArray, ts⟩, ty, pos, af, none⟩ :: rest) f w := by
  refine cal (F := F) (args := (vs ++ cap).toArray) (w' := w) (R := S) rfl ?_ hc h
  unfold execOp
  simp only [resolve, hx, Deferred.ofValue, Sem.run_bind, Sem.run_pure, Result.andThen_ok, invoke, List.map_toArray, ha, List.append_toArray, List.nil_append]
  exact hf _ _
end
end Go.Ro
