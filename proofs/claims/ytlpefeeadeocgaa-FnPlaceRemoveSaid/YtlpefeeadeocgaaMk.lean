/- make of a slice. Conditions: those that each row states. -/
import Derived.Test.YtlpefeeadeocgaaXr
namespace Go.Ro
open Go

section
variable {P : Program} {n : Nat} {Q : Po} {f : Sl} {w : World} {ops : Array Oper} {rest : List Oper}
  {d : Nat} {ty : TypeId} {pos : String} {af : Array Edge} {e : World} {G : View} {L : Own}

/-- a store at an index that is reckoned -/
theorem soi {T b o t : Nat} {x y : Operand} {l : List Value} {v : Value} {sz by' : Nat} {z : Value} (hK : K e w G L) (hi : Inf P T z sz by') (hs : Nat.beq sz 1 = true) (k : Nat) (hn : L[k]? = some (b, row l t))
    (hp : ev n f x = .pointer (some ⟨b, o, none⟩)) (hv : ev n f y = v) (h1 : one v = true) (ho : o < l.length) {dst : Option Tmp}
    (h : ∀ w1, K e w1 G (L.set k (b, row (l.set o v) t)) → WL P n ops Q rest (updO f dst undef) w1) :
    WL P n ops Q (⟨dst, .store T x y, ty, pos, af, none⟩ :: rest) f w :=
  so hK hi hs k hn hp hv h1 (Nat.ble_eq_true_of_le ho) h
end

/-- a row of numbers joins the view -/
def ints (xs : List Int) : List Value := xs.map (.int .i64)
@[simp] theorem ints_len (xs : List Int) : (ints xs).length = xs.length := by simp [ints]
/-- a slice of numbers that the walk owns joins the view -/
theorem K.pubO {e w : World} {G : View} {L A : Own} {t : Nat} {v : Value} {xs : List Int} (hK : K e w G (A ++ L)) (ho : OS 1 t v xs.length (ints xs) A) :
    ∃ G', VLe G G' ∧ IntS G' v xs ∧ K e w G' L := by
  refine ⟨addV G A, hK.addV_le, ?_, hK.pub⟩
  refine OS.pub ho ho.nodup fun i x hx => ⟨[.int .i64 x], rfl, fun j u hj => ?_, rfl⟩
  have hj0 : j = 0 := by have := (List.getElem?_eq_some_iff.1 hj).1; simp at this; exact this
  subst hj0
  simp at hj; subst hj
  simp [ints, hx]
theorem mul_lt2 {a b A B : Int} (h1 : 0 ≤ a) (h2 : a < A) (h3 : 0 ≤ b) (h4 : b < B) : 0 ≤ a * b ∧ a * b ≤ A * B :=
  ⟨Int.mul_nonneg h1 h3, Int.mul_le_mul (by omega) (by omega) h3 (by omega)⟩
end Go.Ro
