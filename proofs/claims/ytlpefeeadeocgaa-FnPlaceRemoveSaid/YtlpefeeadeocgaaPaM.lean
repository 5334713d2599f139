/- Answers of paths, in plain lists. Conditions: those that each row states. -/

namespace Go.Ro

theorem count_two {a b : Int} (h : a ≠ b) : ∀ l : List Int, l.count a + l.count b ≤ l.length
  | [] => by simp
  | x :: l => by
    have ih := count_two h l
    simp only [List.count_cons, List.length_cons, beq_iff_eq]
    split <;> split <;> omega

/-- r is what more than half of the answers are; or -1 -/
def Maj (xs : List Int) (r : Int) : Prop := (7 < xs.length ∧ r = -1) ∨ (xs.length ≤ 7 ∧ (xs.length < 2 * xs.count r ∨ (r = -1 ∧ ∀ a, 2 * xs.count a ≤ xs.length)))
theorem Maj.uniq {xs : List Int} {r s : Int} (h : Maj xs r) (h' : Maj xs s) : r = s := by
  rcases h with ⟨h1, rfl⟩ | ⟨h1, h⟩ <;> rcases h' with ⟨g1, rfl⟩ | ⟨g1, g⟩
  · rfl
  · omega
  · omega
  · rcases h with h | ⟨rfl, h⟩ <;> rcases g with g | ⟨rfl, g⟩
    · by_cases hrs : r = s
      · exact hrs
      · have := count_two hrs xs; omega
    · have := g r; omega
    · have := h s; omega
    · rfl
theorem Maj.mem {xs : List Int} {s : Int} (h : Maj xs s) : s = -1 ∨ s ∈ xs := by
  rcases h with ⟨_, h⟩ | ⟨_, h | ⟨h, _⟩⟩
  · exact .inl h
  · exact .inr (List.count_pos_iff.1 (by omega))
  · exact .inl h
end Go.Ro
