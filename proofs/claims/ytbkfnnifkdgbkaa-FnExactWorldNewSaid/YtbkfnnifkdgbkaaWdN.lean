/- New worlds: what is true of them. Conditions: those that each row states. -/
import Derived.Test.YtbkfnnifkdgbkaaWdM
namespace Go.Ro

theorem Asc.mono {xs : List Int} (h : Asc xs) {i j : Nat} (hi : i < xs.length) (hj : j < xs.length) : xs[i] < xs[j] ↔ i < j := by
  have hp := List.pairwise_iff_getElem.1 h.2
  constructor
  · intro hl
    rcases Nat.lt_trichotomy i j with h1 | h1 | h1
    · exact h1
    · subst h1; omega
    · have := hp j i hj hi h1; simp only [id] at this; omega
  · intro hl
    exact hp i j hi hj hl
theorem Asc.next {xs : List Int} (h : Asc xs) (h3 : 3 ≤ xs.length) {i : Nat} (hi : i < xs.length) {k : Int} (hk : k ∈ xs) : btw xs[i] k (xs[(i + 1) % xs.length]'(Nat.mod_lt _ (by omega))) = false := by
  obtain ⟨j, hj, rfl⟩ := List.getElem_of_mem hk
  have hm := Nat.mod_lt (i + 1) (show xs.length > 0 by omega)
  have h1 := h.mono hi hj
  have h2 := h.mono hj hm
  have h4 := h.mono hi hm
  rcases Nat.lt_or_ge (i + 1) xs.length with hc | hc
  · have e : (i + 1) % xs.length = i + 1 := Nat.mod_eq_of_lt hc
    have : i < (i + 1) % xs.length := by omega
    unfold btw
    rw [if_pos (h4.2 this)]
    refine decide_eq_false ?_
    rintro ⟨g1, g2⟩
    have := h1.1 g1
    have := h2.1 g2
    omega
  · have e : (i + 1) % xs.length = 0 := by rw [show i + 1 = xs.length by omega]; exact Nat.mod_self _
    unfold btw
    rw [if_neg (fun g => by have := h4.1 g; omega)]
    refine decide_eq_false ?_
    rintro (g | g)
    · have := h1.1 g; omega
    · have := h2.1 g; omega
end Go.Ro
