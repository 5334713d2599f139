/- Maps from int to int, made by the walk itself. Answers of paths, in plain lists. Conditions: those that each row states. -/
import Derived.Test.YtbkfnnifkdgbkaaMk
namespace Go.Ro
open Go

def ups : List (Int × Int) → Int → Int → List (Int × Int)
  | [], k, v => [(k, v)]
  | (a, b) :: l, k, v => if a = k then (k, v) :: l else (a, b) :: ups l k v
def lkI : List (Int × Int) → Int → Option Int
  | [], _ => none
  | (a, b) :: l, k => if a = k then some b else lkI l k
theorem lkI_ups (l : List (Int × Int)) (k v j : Int) : lkI (ups l k v) j = if j = k then some v else lkI l j := by
  induction l with
  | nil => simp only [ups, lkI]; by_cases h : k = j <;> simp [h]; intro h'; exact absurd h'.symm h
  | cons p l ih =>
    obtain ⟨a, b⟩ := p
    unfold ups
    by_cases h : a = k
    · subst h
      rw [if_pos rfl]
      simp only [lkI]
      by_cases h' : a = j
      · subst h'; simp
      · rw [if_neg h', if_neg h', if_neg (fun e => h' e.symm)]
    · rw [if_neg h]
      simp only [lkI]
      by_cases h' : a = j
      · subst h'; simp [h]
      · rw [if_neg h', if_neg h', ih]

def enE (p : Int × Int) : Value × Value := (.int .i64 p.1, .int .i64 p.2)
def MI (o : Obj) (l : List (Int × Int)) : Prop := ∃ es c, o = .map es c ∧ es.toList.map (fun e => (e.key, e.val)) = l.map enE

theorem MI.nil : MI (.map #[] 0) [] := ⟨_, _, rfl, rfl⟩

section
variable {P : Program} {n : Nat} {Q : Po} {f : Sl} {w : World} {ops : Array Oper} {rest : List Oper}
  {d : Nat} {dst : Option Tmp} {ty : TypeId} {pos : String} {af : Array Edge} {g : Option (Nat × Bool)} {e : World} {G : View} {L : Own}

end
end Go.Ro

namespace Go.Ro

theorem count_two {a b : Int} (h : a ≠ b) : ∀ l : List Int, l.count a + l.count b ≤ l.length
  | [] => by simp
  | x :: l => by
    have ih := count_two h l
    simp only [List.count_cons, List.length_cons, beq_iff_eq]
    split <;> split <;> omega

/-- r is what more than half of the answers are; or -1 -/
def Maj (xs : List Int) (r : Int) : Prop := (7 < xs.length ∧ r = -1) ∨ (xs.length ≤ 7 ∧ (xs.length < 2 * xs.count r ∨ (r = -1 ∧ ∀ a, 2 * xs.count a ≤ xs.length)))
theorem Maj.uniq {xs : List Int} {r s : Int} (h : Maj xs r) (h' : Maj xs s) : r = s := by
  rcases h with ⟨h1, rfl⟩ | ⟨h1, h⟩ <;> rcases h' with ⟨g1, rfl⟩ | ⟨g1, g⟩
  · rfl
  · omega
  · omega
  · rcases h with h | ⟨rfl, h⟩ <;> rcases g with g | ⟨rfl, g⟩
    · by_cases hrs : r = s
      · exact hrs
      · have := count_two hrs xs; omega
    · have := g r; omega
    · have := h s; omega
    · rfl
theorem Maj.mem {xs : List Int} {s : Int} (h : Maj xs s) : s = -1 ∨ s ∈ xs := by
  rcases h with ⟨_, h⟩ | ⟨_, h | ⟨h, _⟩⟩
  · exact .inl h
  · exact .inr (List.count_pos_iff.1 (by omega))
  · exact .inl h
end Go.Ro
