/- New worlds: what is true of them. Conditions: those that each row states. -/
import Derived.Test.YtjfjnmbgimfmaaaWdM
namespace Go.Ro

theorem Asc.mono {xs : List Int} (h : Asc xs) {i j : Nat} (hi : i < xs.length) (hj : j < xs.length) : xs[i] < xs[j] ↔ i < j := by
  have hp := List.pairwise_iff_getElem.1 h.2
  constructor
  · intro hl
    rcases Nat.lt_trichotomy i j with h1 | h1 | h1
    · exact h1
    · subst h1; omega
    · have := hp j i hj hi h1; simp only [id] at this; omega
  · intro hl
    exact hp i j hi hj hl
theorem Asc.next {xs : List Int} (h : Asc xs) (h3 : 3 ≤ xs.length) {i : Nat} (hi : i < xs.length) {k : Int} (hk : k ∈ xs) : btw xs[i] k (xs[(i + 1) % xs.length]'(Nat.mod_lt _ (by omega))) = false := by
  obtain ⟨j, hj, rfl⟩ := List.getElem_of_mem hk
  have hm := Nat.mod_lt (i + 1) (show xs.length > 0 by omega)
  have h1 := h.mono hi hj
  have h2 := h.mono hj hm
  have h4 := h.mono hi hm
  rcases Nat.lt_or_ge (i + 1) xs.length with hc | hc
  · have e : (i + 1) % xs.length = i + 1 := Nat.mod_eq_of_lt hc
    have : i < (i + 1) % xs.length := by omega
    unfold btw
    rw [if_pos (h4.2 this)]
    refine decide_eq_false ?_
    rintro ⟨g1, g2⟩
    have := h1.1 g1
    have := h2.1 g2
    omega
  · have e : (i + 1) % xs.length = 0 := by rw [show i + 1 = xs.length by omega]; exact Nat.mod_self _
    unfold btw
    rw [if_neg (fun g => by have := h4.1 g; omega)]
    refine decide_eq_false ?_
    rintro (g | g)
    · have := h1.1 g; omega
    · have := h2.1 g; omega
theorem idx_mod (a n : Nat) : ((a : Int) % (n : Int)).toNat = a % n := rfl
theorem idN_eq {xs : List Int} (h3 : 3 ≤ xs.length) {i : Nat} (hi : i < xs.length) :
    idN xs i = (xs[i], xs[(i + xs.length - 1) % xs.length]'(Nat.mod_lt _ (by omega)), [xs[(i + 1) % xs.length]'(Nat.mod_lt _ (by omega)), xs[((i + 1) % xs.length + 1) % xs.length]'(Nat.mod_lt _ (by omega))]) := by
  have e1 : (((i : Int) + xs.length - 1) % xs.length).toNat = (i + xs.length - 1) % xs.length := by
    rw [show ((i : Int) + xs.length - 1) = ((i + xs.length - 1 : Nat) : Int) by omega]; rfl
  have e3 : (((i : Int) + 2) % xs.length).toNat = ((i + 1) % xs.length + 1) % xs.length := by
    rw [show ((i : Int) + 2) = ((i + 2 : Nat) : Int) by omega, idx_mod, Nat.mod_add_mod]
  have e2 : (((i : Int) + 1) % xs.length).toNat = (i + 1) % xs.length := rfl
  unfold idN
  rw [e1, e2, e3, ← getD_of hi, ← getD_of (Nat.mod_lt _ (by omega)), ← getD_of (Nat.mod_lt _ (by omega)), ← getD_of (Nat.mod_lt _ (by omega))]
theorem mem_idl {xs : List Int} {x : Nd} (h : x ∈ idl xs) : ∃ i, i < xs.length ∧ x = idN xs i := by
  obtain ⟨i, hi, rfl⟩ := List.mem_map.1 h
  exact ⟨i, List.mem_range.1 hi, rfl⟩
theorem idl_ok {xs : List Int} (h : NdsOk xs) (h3 : 3 ≤ xs.length) : RgOk (idl xs) := by
  refine ⟨by have := h.1.2; simp [idl]; omega, fun x hx => ?_, ?_⟩
  · obtain ⟨i, hi, rfl⟩ := mem_idl hx
    rw [idN_eq h3 hi]
    refine ⟨h.2.pt _, .inr (h.2.pt _), rfl, fun k hk => ?_⟩
    simp only [List.mem_cons, List.not_mem_nil, or_false] at hk
    rcases hk with rfl | rfl
    · exact h.2.pt _
    · exact h.2.pt _
  · have := h.2.2
    rw [← ids_idl xs] at this
    exact List.pairwise_map.1 this
theorem idl_skn {xs : List Int} (h : NdsOk xs) (h3 : 3 ≤ xs.length) {x : Nd} (hx : x ∈ idl xs) {k : Int} (hk : k ∈ xs) : skn x k = false := by
  obtain ⟨i, hi, rfl⟩ := mem_idl hx
  rw [idN_eq h3 hi, skn2 rfl]
  have hm := Nat.mod_lt (i + 1) (show xs.length > 0 by omega)
  have h1 := h.2.next h3 hi hk
  have h2 := h.2.next h3 hm hk
  show (btw _ _ (xs[(i + 1) % xs.length]) || btw (xs[(i + 1) % xs.length]) k (xs[((i + 1) % xs.length + 1) % xs.length]'(Nat.mod_lt _ (by omega)))) = false
  rw [h1, h2]; rfl
theorem idl_safe {xs : List Int} (h : NdsOk xs) (h3 : 3 ≤ xs.length) : RgSafe (idl xs) := by
  refine ⟨idl_ok h h3, fun x hx => ?_, ?_⟩
  · obtain ⟨i, hi, rfl⟩ := mem_idl hx
    rw [idN_eq h3 hi, ids_idl]
    exact ⟨_, List.mem_cons_self .., List.getElem_mem _⟩
  · have : prin (idl xs) = xs := by
      unfold prin
      rw [ids_idl, List.filter_eq_self]
      intro k hk
      rw [Bool.not_eq_true', List.any_eq_false]
      intro x hx
      rw [idl_skn h h3 hx hk]; simp
    rw [this]; exact h3
theorem newLs_ok {xs : List Int} (h : NdsOk xs) {t : Int} (ht : Tm t) : LsOk (xs.map fun k => (k, k, t)) := by
  refine ⟨by have := h.1; simp; omega, fun x hx => ?_, List.pairwise_map.2 h.2.2⟩
  obtain ⟨k, hk, rfl⟩ := List.mem_map.1 hx
  exact ⟨h.2.1 k hk, h.2.1 k hk, ht⟩
theorem newW_ok {xs : List Int} (h : NdsOk xs) (h3 : 3 ≤ xs.length) : WdOk (newW xs) :=
  ⟨(show Tm 0 from ⟨by decide, by decide⟩), idl_safe h h3, newLs_ok h ⟨by decide, by decide⟩, ⟨(fun _ hx => by cases hx), Asc.nil⟩, SnOk.zero, Asc.nil, (fun _ hk => by cases hk)⟩
theorem lsAt_new {xs : List Int} (h : 1 ≤ xs.length) (t k : Int) : lsAt (xs.map fun k => (k, k, t)) k = (nxt xs k, nxt xs k, t) := by
  rcases lAt_cases (xs.map fun k => ((k, k, t) : Ls)) k with ⟨h1, h2⟩ | ⟨h1, h2, h3⟩
  · have hn : nxt xs k = xs.getD 0 0 := nxt_none fun x hx => by
      have := h2 (x, x, t) (List.mem_map.2 ⟨x, hx, rfl⟩); simp only at this; omega
    unfold lsAt
    rw [h1, hn, ← getD_of (by omega), List.getD_eq_getElem?_getD, List.getElem?_map, List.getElem?_eq_getElem (by omega)]; rfl
  · have hi : lAt (xs.map fun k => ((k, k, t) : Ls)) k < xs.length := by simpa using h1
    rw [← lsAt_eq h1]
    have h4 : k ≤ xs[lAt (xs.map fun k => ((k, k, t) : Ls)) k] := by simpa using h2
    rw [nxt_at hi (fun x hx => by
      have hx' : ((x, x, t) : Ls) ∈ (xs.map fun k => ((k, k, t) : Ls)).take (lAt (xs.map fun k => ((k, k, t) : Ls)) k) := by
        rw [← List.map_take]; exact List.mem_map.2 ⟨x, hx, rfl⟩
      have := h3 _ hx'; simp only at this; omega) h4]
    simp
theorem nxt_mem {xs : List Int} (h : 1 ≤ xs.length) (k : Int) : nxt xs k ∈ xs := by
  unfold nxt
  cases hf : xs.find? (fun x => decide (x ≥ k)) with
  | none => simp only [Option.getD_none]; rw [← getD_of (by omega)]; exact List.getElem_mem _
  | some y => exact List.mem_of_find?_eq_some hf
theorem own_new {xs : List Int} (h : NdsOk xs) (k : Int) : own (newW xs) k = nxt xs k := by
  have h1 : lsAt (newW xs).leases k = (nxt xs k, nxt xs k, 20) := lsAt_new h.1.1 20 k
  unfold own
  rw [h1]
  refine if_neg ?_
  rintro (h2 | h2)
  · have : (20 : Int) < 0 := h2
    omega
  · apply h2
    show nxt xs k ∈ ids (idl xs)
    rw [ids_idl]; exact nxt_mem h.1.1 k
end Go.Ro
