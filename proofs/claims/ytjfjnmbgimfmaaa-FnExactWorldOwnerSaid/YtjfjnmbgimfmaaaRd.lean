/- What a slice of any elements holds at the start of a row. Conditions: those that each row states. -/
import Derived.Test.YtjfjnmbgimfmaaaFin
import Derived.Test.YtjfjnmbgimfmaaaSs
import Derived.Deep.Slices
namespace Go.Ro
open Go Go.ChangeShapes Go.WideShapes Go.Deep

theorem choose_list {α : Type} {p : Nat → α → Prop} : ∀ n, (∀ i, i < n → ∃ x, p i x) → ∃ l : List α, l.length = n ∧ ∀ i x, l[i]? = some x → p i x
  | 0, _ => ⟨[], rfl, fun i x h => by simp at h⟩
  | n + 1, h => by
    obtain ⟨l, h1, h2⟩ := choose_list n (fun i hi => h i (by omega))
    obtain ⟨x, hx⟩ := h n (by omega)
    refine ⟨l ++ [x], by simp [h1], fun i y hi => ?_⟩
    rcases Nat.lt_or_ge i n with hl | hl
    · rw [List.getElem?_append_left (by omega)] at hi
      exact h2 i y hi
    · have : i < (l ++ [x]).length := (List.getElem?_eq_some_iff.1 hi).1
      have hin : i = n := by simp [h1] at this; omega
      subst hin
      rw [← h1, List.getElem?_append_right (Nat.le_refl _), Nat.sub_self] at hi
      obtain rfl := Option.some.inj hi
      exact hx

section
variable {H : Type} {enc : TypeId × Value → H} {P : Program} {w : World} {base : Nat} {spare : Nat → Bool} {held : Bool}

theorem read_sl {α : Type} {E : View → List Value → α → Prop} {t e : TypeId} {sz fuel : Nat} {v : Value} {x : DataW H × List MemPlace} (ht : P.underlying t = some (.slice e)) (hc : P.cellsOf e = sz) (hsz : 1 ≤ sz)
    (hel : ∀ fuel cs x, cs.length = sz → DataW.trod enc P w base spare held fuel e cs = some x → ∃ y, E (hvw w) cs y) (h : DataW.trod enc P w base spare held fuel t [v] = some x) :
    ∃ ys, SlR sz E (hvw w) v ys := by
  rcases open_slice ht h with ⟨hcs, _⟩ | ⟨a, len, cap, m, n, D, Pl, hcs, _, hl, hm, hmm, _, hx⟩
  · obtain rfl : v = .slice none 0 0 := by simpa using hcs
    exact ⟨[], nil_row⟩
  · obtain rfl : v = .slice (some a) len cap := by simpa using hcs
    have hlm : len ≤ m := by rw [hmm]; split <;> omega
    rw [hc] at hx
    obtain ⟨ys, h1, h2⟩ := choose_list (p := fun i y => ∃ cs, cs.length = sz ∧ (∀ j c, cs[j]? = some c → w.cell? (a.add (i * sz + j)) = some c) ∧ E (hvw w) cs y) len (fun i hi => by
      obtain ⟨cs, g1, g2⟩ := hx i (by omega)
      obtain ⟨_, g3, g4⟩ := World.cells?_some g1
      obtain ⟨y, hy⟩ := hel n cs _ g3 g2
      refine ⟨y, cs, g3, fun j c hj => ?_, hy⟩
      have hlt := (List.getElem?_eq_some_iff.1 hj).1
      have := g4 j (by omega)
      rw [hj, Addr.add_add] at this
      exact this)
    have hs : 0 < len → a = ⟨a.block, a.off, none⟩ := by
      intro h0
      obtain ⟨cs, g1, g2⟩ := hx 0 (by omega)
      obtain ⟨_, g3, g4⟩ := World.cells?_some g1
      have h1 := g4 0 (by omega)
      have he : (a.add (0 * sz)).add 0 = a := by cases a with | mk b o s => cases s <;> simp [Addr.add]
      rw [he, List.getElem?_eq_getElem (by omega)] at h1
      unfold World.cell? at h1
      cases hsp : a.spot with
      | none => cases a; simp only at hsp; subst hsp; rfl
      | some s =>
        cases hh : w.heap[a.block]? with
        | none => rw [hh] at h1; cases h1
        | some o => rw [hh] at h1; cases o <;> simp [hsp] at h1
    refine ⟨ys, ⟨some a, cap, by rw [h1], by omega, hm, ?_⟩, fun i y hi => ?_⟩
    · rcases Nat.eq_zero_or_pos len with h | h
      · left; omega
      · right; exact ⟨a.block, a.off, by rw [← hs h]⟩
    · obtain ⟨cs, g1, g2, g3⟩ := h2 i y hi
      refine ⟨cs, g1, fun j c hj => ?_, g3⟩
      have hlt := (List.getElem?_eq_some_iff.1 hi).1
      have hh := g2 j c hj
      have hadd : a.add (i * sz + j) = elA (.slice (some a) len cap) (i * sz + j) := by
        rw [hs (by omega)]; unfold Addr.add elA
        split
        · rename_i h0; rw [h0]; rfl
        · rfl
      rw [hadd] at hh
      exact hh

/-- elements of one cell -/
theorem read_ss {α : Type} {E : View → Value → α → Prop} {t e : TypeId} {fuel : Nat} {v : Value} {x : DataW H × List MemPlace} (ht : P.underlying t = some (.slice e)) (hc : P.cellsOf e = 1)
    (hel : ∀ fuel u x, DataW.trod enc P w base spare held fuel e [u] = some x → ∃ y, E (hvw w) u y) (h : DataW.trod enc P w base spare held fuel t [v] = some x) :
    ∃ ys, SS E (hvw w) v ys :=
  read_sl ht hc (Nat.le_refl _) (fun fuel cs x hl hx => by
    obtain ⟨u, rfl⟩ : ∃ u, cs = [u] := by
      match cs, hl with
      | [u], _ => exact ⟨u, rfl⟩
    obtain ⟨y, hy⟩ := hel fuel u x hx
    exact ⟨y, u, rfl, hy⟩) h
theorem read_ints {t e : TypeId} {fuel : Nat} {v : Value} {x : DataW H × List MemPlace} (ht : P.underlying t = some (.slice e)) (he : P.underlying e = some (.int .i64)) (hc : P.cellsOf e = 1)
    (h : DataW.trod enc P w base (fun _ => true) held fuel t [v] = some x) : ∃ zs, IntS (hvw w) v zs := by
  rcases open_ints ht he hc h with ⟨hcs, _⟩ | ⟨x, l, c, zs, hcs, _, hl, hm, hz, _, hcell, hwz⟩
  · obtain rfl : v = .slice none 0 0 := by simpa using hcs
    exact ⟨[], nil_row⟩
  · obtain rfl : v = .slice (some x) l c := by simpa using hcs
    exact ⟨_, cell_row hl hm (by simpa using hz) hcell⟩
end
end Go.Ro
