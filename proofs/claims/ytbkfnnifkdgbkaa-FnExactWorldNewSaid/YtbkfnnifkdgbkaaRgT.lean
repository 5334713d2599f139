/- A step of a safe ring leaves it safe. Conditions: those that each row states. -/
import Derived.Test.YtbkfnnifkdgbkaaRgM
namespace Go.Ro

theorem RgOk.pw {r : List Nd} (h : RgOk r) : (ids r).Pairwise (· < ·) := List.pairwise_map.2 h.2.2
theorem RgOk.ptId {r : List Nd} (h : RgOk r) {k : Int} (hk : k ∈ ids r) : Pt k := by
  obtain ⟨x, hx, rfl⟩ := List.mem_map.1 hk; exact (h.2.1 x hx).1
theorem a0_mem {n : Nd} (h : n.2.2.length = 2) : a0 n ∈ n.2.2 := by
  obtain ⟨i, b, l⟩ := n
  match l, h with
  | [p, q], _ => simp [a0]
theorem a1_mem {n : Nd} (h : n.2.2.length = 2) : a1 n ∈ n.2.2 := by
  obtain ⟨i, b, l⟩ := n
  match l, h with
  | [p, q], _ => simp [a1]
theorem prin_le {r r' : List Nd} (h1 : (ids r).Sublist (ids r')) (h2 : ∀ n' ∈ r', ∀ k ∈ ids r, skn n' k = true → ∃ n ∈ r, skn n k = true) : (prin r).length ≤ (prin r').length := by
  unfold prin
  rw [← List.countP_eq_length_filter, ← List.countP_eq_length_filter]
  refine Nat.le_trans (List.countP_mono_left (q := fun k => !(r'.any (fun n => skn n k))) ?_) (h1.countP_le)
  intro k hk hp
  simp only [Bool.not_eq_true', List.any_eq_false] at hp ⊢
  intro n' hn' hs
  obtain ⟨n, hn, hs⟩ := h2 n' hn' k hk hs
  exact hp n hn hs

theorem ids_setN {r : List Nd} {id : Int} {n : Nd} (hid : id ∈ ids r) (h : n.1 = id) : ids (setN r id n) = ids r := by
  unfold setN
  refine ids_set fun x hx => ?_
  rw [List.getElem?_eq_getElem (fx_lt hid), ndAt_eq hid] at hx
  obtain rfl := Option.some.inj hx
  rw [h, ndAt_id hid]

theorem RgSafe.set {r : List Nd} {id : Int} {n' : Nd} (h : RgSafe r) (hid : id ∈ ids r) (hn : NdOk n') (h1 : n'.1 = id) (hl : ∃ k ∈ n'.2.2, k ∈ ids r)
    (hs : ∀ k ∈ ids r, skn n' k = true → ∃ n ∈ r, skn n k = true) : RgSafe (setN r id n') := by
  have hi := ids_setN hid h1
  have hm : ∀ x ∈ setN r id n', x = n' ∨ x ∈ r := fun x hx => by
    rcases List.mem_or_eq_of_mem_set hx with h | h
    · exact .inr h
    · exact .inl h
  refine ⟨⟨by unfold setN; rw [List.length_set]; exact h.1.1, fun x hx => ?_, ?_⟩, fun x hx => ?_, ?_⟩
  · rcases hm x hx with rfl | hx
    · exact hn
    · exact h.1.2.1 x hx
  · have := h.1.pw; rw [← hi] at this; exact List.pairwise_map.1 this
  · rw [hi]
    rcases hm x hx with rfl | hx
    · exact hl
    · exact h.2.1 x hx
  · refine Nat.le_trans h.2.2 (prin_le (by rw [hi]; exact List.Sublist.refl _) fun x hx k hk hsk => ?_)
    rcases hm x hx with rfl | hx
    · exact hs k hk hsk
    · exact ⟨x, hx, hsk⟩

theorem NdOk.a0 {x : Nd} (h : NdOk x) : Pt (a0 x) := h.2.2.2 _ (a0_mem h.2.2.1)
theorem NdOk.a1 {x : Nd} (h : NdOk x) : Pt (a1 x) := h.2.2.2 _ (a1_mem h.2.2.1)

end Go.Ro
