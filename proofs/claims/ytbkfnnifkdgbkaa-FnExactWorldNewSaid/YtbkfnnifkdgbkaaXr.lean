/- More operations: exclusive or; bytes by an index that is an integer. Conditions: those that each row states. -/
import Derived.Test.YtbkfnnifkdgbkaaAp
namespace Go.Ro
open Go

def xorI (a b : Int) : Int := ((a.toNat ^^^ b.toNat : Nat) : Int)
theorem BytS.at {G : View} {v : Value} {xs : List Int} (h : BytS G v xs) {i : Nat} (hi : i < xs.length) : cellV G (elA v i) = some (.int .u8 xs[i]) := (h.atB hi).1
theorem BytS.atI {G : View} {v : Value} {xs : List Int} (h : BytS G v xs) {j : Int} (h0 : 0 ≤ j) (h1 : j < xs.length) : cellV G (elA v j.toNat) = some (.int .u8 (xs.getD j.toNat 0)) := by
  have hi : j.toNat < xs.length := by omega
  rw [h.at hi]; simp [List.getD, hi]
theorem BytS.bd {G : View} {v : Value} {xs : List Int} (h : BytS G v xs) (i : Nat) : 0 ≤ xs.getD i 0 ∧ xs.getD i 0 ≤ 255 := by
  by_cases hi : i < xs.length
  · have := (h.atB hi).2
    simpa [List.getD, hi] using this
  · simp [List.getD, List.getElem?_eq_none (Nat.le_of_not_lt hi)]

section
variable {P : Program} {n : Nat} {f : Sl} {w : World} {dst : Option Tmp} {ty : TypeId} {pos : String} {af : Array Edge} {g : Option (Nat × Bool)}
end

section
variable {P : Program} {n : Nat} {f : Sl} {ops : Array Oper} {rest : List Oper} {d : Nat} {ty : TypeId} {pos : String} {af : Array Edge} {e : World} {G : View} {L : Own} {R : Sl → Prop}
theorem qldV {T : Nat} {x : Operand} {a : Addr} {v : Value} (h1 : OneC P T) (hp : ev n f x = .pointer (some a)) (hc : cellV G a = some v) (h : WQ P n ops (fun w => K e w G L) R rest (upd f d v)) :
    WQ P n ops (fun w => K e w G L) R (⟨some d, .load T x, ty, pos, af, none⟩ :: rest) f := qv (fun _ hK => ldV hK h1 hp hc) h
end
end Go.Ro
