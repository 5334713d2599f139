/- Puzzles, in plain numbers. Conditions: those that each row states. -/

namespace Go.Ro

def pzN (id nonce : Int) : Int := (31 * id + 17 * nonce + 5) % 1009
def pzHash (id nonce : Int) : Int := pzN id nonce * (pzN id nonce + nonce + 7) % 1009
def pzVal (id nonce : Int) : Int := if (0 ≤ id ∧ id ≤ 63) ∧ 0 ≤ nonce ∧ nonce ≤ 255 then pzHash id nonce else -1

def pzOk (id nonce bits : Int) : Prop := (0 ≤ id ∧ id ≤ 63) ∧ (0 ≤ nonce ∧ nonce ≤ 255) ∧ (0 ≤ bits ∧ bits ≤ 5) ∧ pzHash id nonce % 2 ^ bits.toNat = 0
instance (id nonce bits : Int) : Decidable (pzOk id nonce bits) := by unfold pzOk; infer_instance

/-- r is the smallest solution, or -1 where there is none -/
def PzSol (id bits r : Int) : Prop := (r = -1 ∧ ∀ j : Int, 0 ≤ j → j ≤ 255 → ¬ pzOk id j bits) ∨ (0 ≤ r ∧ pzOk id r bits ∧ ∀ j : Int, 0 ≤ j → j < r → ¬ pzOk id j bits)
theorem PzSol.uniq {id bits r s : Int} (h : PzSol id bits r) (h' : PzSol id bits s) : r = s := by
  rcases h with ⟨rfl, h⟩ | ⟨h0, h1, h2⟩ <;> rcases h' with ⟨rfl, h'⟩ | ⟨g0, g1, g2⟩
  · rfl
  · exact absurd g1 (h s g0 g1.2.1.2)
  · exact absurd h1 (h' r h0 h1.2.1.2)
  · rcases Int.lt_trichotomy r s with h | h | h
    · exact absurd h1 (g2 r h0 h)
    · exact h
    · exact absurd g1 (h2 s g0 h)

theorem pow_mod {h : Int} {c b : Nat} (hcb : c ≤ b) (hh : h % 2 ^ b = 0) : h % 2 ^ c = 0 := by
  have h1 : (2 : Int) ^ b ∣ h := Int.dvd_of_emod_eq_zero hh
  have h2 : (2 : Int) ^ c ∣ 2 ^ b := ⟨2 ^ (b - c), by rw [← Int.pow_add]; congr 1; omega⟩
  exact Int.emod_eq_zero_of_dvd (Int.dvd_trans h2 h1)
theorem pzOk.le {id n b c : Int} (h : pzOk id n b) (h0 : 0 ≤ c) (hc : c ≤ b) : pzOk id n c :=
  ⟨h.1, h.2.1, ⟨h0, Int.le_trans hc h.2.2.1.2⟩, pow_mod (by omega) h.2.2.2⟩
theorem PzSol.zero {id n b s : Int} (h : pzOk id n b) (hs : PzSol id 0 s) : s = 0 := by
  have h0 : pzOk id 0 0 := ⟨h.1, by decide, by decide, by simp⟩
  rcases hs with ⟨_, g⟩ | ⟨g0, g1, g2⟩
  · exact absurd h0 (g 0 (by omega) (by omega))
  · rcases Int.lt_or_eq_of_le g0 with g | g
    · exact absurd h0 (g2 0 (by omega) g)
    · exact g.symm
theorem PzSol.ok {id b r : Int} (h : PzSol id b r) (h0 : 0 ≤ r) : pzOk id r b := by
  rcases h with ⟨rfl, _⟩ | ⟨_, h1, _⟩
  · omega
  · exact h1
theorem PzSol.not {id b r : Int} (h : PzSol id b r) (j : Int) (h0 : 0 ≤ j) (hj : j ≤ 255) (hr : r < 0 ∨ j < r) : ¬ pzOk id j b := by
  rcases h with ⟨rfl, g⟩ | ⟨g0, _, g⟩
  · exact g j h0 hj
  · exact g j h0 (by omega)
end Go.Ro
