/- Regions that draw their order: operations whose order does not matter, each shown once. Conditions: those that each row states. -/
import Derived.Test.YtbkfnnifkdgbkaaLeM
import Derived.Test.YtbkfnnifkdgbkaaMx
namespace Go.Ro
open Go

section
variable {P : Program} {n : Nat} {Q : Po} {w : World} {σ : Type}

/-- what is listed holds what it needs -/
def Clo (ops : List Oper) (l : List Bool) : Prop := ∀ (j : Nat) (o : Oper), ops[j]? = some o → l[j]? = some true → ∀ e ∈ o.after.toList, Region.binds .any e = true → l[e.on]? = some true
/-- one operation, whenever it comes -/
def AoS (P : Program) (n : Nat) (ops : List Oper) (J : List Bool → σ → World → Prop) (Ψ : Nat → σ → Value → Prop) (D : List Nat) (d : Nat → Nat) (f0 : Sl) (i : Nat) : Prop :=
  ∀ o : Oper, ops[i]? = some o → ∀ (l : List Bool) s f w, l.length = ops.length → l[i]? = some false → Clo ops l → (∀ x, x ∉ D → f x = f0 x) → (∀ j : Nat, l[j]? = some true → Ψ j s (f (d j))) → J l s w → (∀ e ∈ o.after.toList, Region.binds .any e = true → l[e.on]? = some true) →
    ∀ R : Po, (∀ g w' s', (∀ x, x ≠ d i → g x = f x) → Ψ i s' (g (d i)) → (∀ j u, j ≠ i → Ψ j s u → Ψ j s' u) → J (l.set i true) s' w' → R .normal g w') → WL P n ops.toArray R [o] f w
def edgeOk (ops : List Oper) : Bool := (List.range ops.length).all fun i => match ops[i]? with | some o => o.after.toList.all (fun e => Nat.blt e.on i) | none => true
end
section
variable {P : Program} {n : Nat} {Q : Po} {f : Sl} {w e : World} {G : View} {L : Own} {ops : Array Oper} {rest : List Oper} {d : Nat} {pos : String} {af : Array Edge}

end
def cloB (ops : List Oper) (l : List Bool) : Bool := (List.range ops.length).all fun j => match ops[j]? with | some o => !(l.getD j false) || o.after.toList.all (fun e => !Region.binds .any e || l.getD e.on false) | none => true
end Go.Ro
