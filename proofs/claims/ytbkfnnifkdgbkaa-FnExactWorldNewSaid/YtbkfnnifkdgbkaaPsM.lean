/- Paths, in plain lists. Conditions: those that each row states. -/
import Derived.Test.YtbkfnnifkdgbkaaPaM
namespace Go.Ro
def PathOk (xs : List Int) : Prop := xs.length ≤ 10 ∧ ∀ x ∈ xs, 0 ≤ x ∧ x ≤ 63
def PathsOk (xss : List (List Int)) : Prop := xss.length ≤ 7 ∧ ∀ xs ∈ xss, PathOk xs
def Disj (xss : List (List Int)) : Prop := PathsOk xss ∧ ∀ i j, j < i → i < xss.length → ∀ x ∈ xss.getD i [], x ∉ xss.getD j []
theorem mem_getD {α : Type} {l : List α} {x d : α} {k : Nat} (h : k < l.length) (hx : l[k] = x) : l.getD k d = x := by simp [List.getD, h, hx]
theorem getD_lt {α : Type} {l : List α} {d : α} {k : Nat} (h : k < l.length) : l.getD k d = l[k] := mem_getD h rfl
/-- i is the first place where q holds, or -1 -/
def IdxOf {α : Type} (q : α → Bool) (xs : List α) (i : Int) : Prop :=
  (i = -1 ∧ ∀ x ∈ xs, q x = false) ∨ ∃ k : Nat, i = k ∧ ∃ h : k < xs.length, q xs[k] = true ∧ ∀ x ∈ xs.take k, q x = false
theorem IdxOf.ge {α : Type} {q : α → Bool} {xs : List α} {i : Int} (h : IdxOf q xs i) : i ≥ 0 ↔ ∃ x ∈ xs, q x = true := by
  rcases h with ⟨rfl, h⟩ | ⟨k, rfl, hk, h1, _⟩
  · constructor
    · intro h0; omega
    · rintro ⟨x, hx, h1⟩; rw [h x hx] at h1; cases h1
  · exact ⟨fun _ => ⟨_, List.getElem_mem hk, h1⟩, fun _ => by omega⟩
instance (xs : List Int) : Decidable (PathOk xs) := by unfold PathOk; infer_instance
instance (xss : List (List Int)) : Decidable (PathsOk xss) := by unfold PathsOk; infer_instance
/-- what is known of a run through the paths: all pairs below i, and below k in path i -/
theorem Disj.step {xss : List (List Int)} {i : Nat} (h : ∀ a j, j < a → a < i → ∀ x ∈ xss.getD a [], x ∉ xss.getD j []) (h2 : ∀ x ∈ xss.getD i [], ∀ j, j < i → x ∉ xss.getD j []) :
    ∀ a j, j < a → a < i + 1 → ∀ x ∈ xss.getD a [], x ∉ xss.getD j [] := by
  intro a j hj ha x hx
  rcases Nat.lt_succ_iff_lt_or_eq.1 ha with h3 | rfl
  · exact h a j hj h3 x hx
  · exact h2 x hx j hj
def MapsTo (l : List (Int × Int)) (T : Int → Nat → Prop) : Prop := (∀ x a, T x a → lkI l x = some (a : Int)) ∧ (∀ x z, lkI l x = some z → ∃ a : Nat, z = a ∧ T x a)
def At (xss : List (List Int)) (i k : Nat) (x : Int) (a : Nat) : Prop := (a < i ∧ x ∈ xss.getD a []) ∨ (a = i ∧ x ∈ (xss.getD i []).take k)
theorem At.next {xss : List (List Int)} {i k : Nat} (hk : (xss.getD i []).length ≤ k) {x : Int} {a : Nat} : At xss i k x a ↔ At xss (i + 1) 0 x a := by
  unfold At
  rw [List.take_of_length_le hk]
  simp only [List.take_zero, List.not_mem_nil, and_false, or_false]
  constructor
  · rintro (⟨h1, h2⟩ | ⟨rfl, h2⟩)
    · exact ⟨by omega, h2⟩
    · exact ⟨by omega, h2⟩
  · rintro ⟨h1, h2⟩
    rcases Nat.lt_succ_iff_lt_or_eq.1 h1 with h1 | rfl
    · exact .inl ⟨h1, h2⟩
    · exact .inr ⟨rfl, h2⟩
theorem MapsTo.congr {l : List (Int × Int)} {T S : Int → Nat → Prop} (h : MapsTo l T) (hT : ∀ x a, T x a ↔ S x a) : MapsTo l S :=
  ⟨fun x a hs => h.1 x a ((hT x a).2 hs), fun x z hz => let ⟨a, h1, h2⟩ := h.2 x z hz; ⟨a, h1, (hT x a).1 h2⟩⟩
theorem MapsTo.step {xss : List (List Int)} {i k : Nat} {l : List (Int × Int)} {p : Int} (h : MapsTo l (At xss i k)) (hk : k < (xss.getD i []).length) (hp : (xss.getD i [])[k] = p)
    (hs : lkI l p = none ∨ lkI l p = some (i : Int)) : MapsTo (ups l p i) (At xss i (k + 1)) := by
  have hat : ∀ x a, At xss i (k + 1) x a ↔ At xss i k x a ∨ (a = i ∧ x = p) := by
    intro x a
    unfold At
    rw [List.take_succ_eq_append_getElem hk, hp]
    simp only [List.mem_append, List.mem_singleton]
    constructor
    · rintro (h | ⟨h1, h2 | h2⟩)
      · exact .inl (.inl h)
      · exact .inl (.inr ⟨h1, h2⟩)
      · exact .inr ⟨h1, h2⟩
    · rintro ((h | ⟨h1, h2⟩) | ⟨h1, h2⟩)
      · exact .inl h
      · exact .inr ⟨h1, .inl h2⟩
      · exact .inr ⟨h1, .inr h2⟩
  constructor
  · intro x a hx
    rw [lkI_ups]
    by_cases hxp : x = p
    · subst hxp
      rw [if_pos rfl]
      rcases (hat x a).1 hx with hx | ⟨rfl, _⟩
      · have := h.1 x a hx
        rcases hs with hs | hs
        · rw [hs] at this; cases this
        · rw [hs] at this; exact this
      · rfl
    · rw [if_neg hxp]
      rcases (hat x a).1 hx with hx | ⟨_, h2⟩
      · exact h.1 x a hx
      · exact absurd h2 hxp
  · intro x z hz
    rw [lkI_ups] at hz
    by_cases hxp : x = p
    · rw [if_pos hxp] at hz
      exact ⟨i, (Option.some.inj hz).symm, (hat x i).2 (.inr ⟨rfl, hxp⟩)⟩
    · rw [if_neg hxp] at hz
      obtain ⟨a, h1, h2⟩ := h.2 x z hz
      exact ⟨a, h1, (hat x a).2 (.inl h2)⟩
theorem Disj.pair {xss : List (List Int)} : Disj xss ↔ PathsOk xss ∧ xss.Pairwise (fun a b => ∀ x ∈ b, x ∉ a) := by
  unfold Disj
  rw [List.pairwise_iff_getElem]
  constructor
  · rintro ⟨h1, h2⟩
    refine ⟨h1, fun i j hi hj hij x hx => ?_⟩
    have := h2 j i hij hj x (by rw [getD_lt hj]; exact hx)
    rwa [getD_lt hi] at this
  · rintro ⟨h1, h2⟩
    refine ⟨h1, fun i j hij hi x hx => ?_⟩
    rw [getD_lt hi] at hx
    have := h2 j i (by omega) hi hij x hx
    rwa [getD_lt (show j < xss.length by omega)]
theorem Disj.ne {xss : List (List Int)} (h : Disj xss) {i k : Nat} (hik : i ≠ k) (hi : i < xss.length) (hk : k < xss.length) {x : Int} (hx : x ∈ xss[i]) : x ∉ xss[k] := by
  intro hx'
  rcases Nat.lt_or_gt_of_ne hik with h1 | h1
  · exact h.2 k i h1 hk x (by rw [getD_lt hk]; exact hx') (by rw [getD_lt hi]; exact hx)
  · exact h.2 i k h1 hi x (by rw [getD_lt hi]; exact hx) (by rw [getD_lt hk]; exact hx')
theorem Disj.sub {xss yss : List (List Int)} (h : Disj xss) (hs : yss.Sublist xss) : Disj yss := by
  rw [Disj.pair] at *
  exact ⟨⟨Nat.le_trans hs.length_le h.1.1, fun xs hx => h.1.2 xs (hs.subset hx)⟩, h.2.sublist hs⟩
def clean (bad : List Int) (xs : List Int) : Bool := xs.all (fun x => decide (x ∉ bad))
def honest (xss : List (List Int)) (bad : List Int) : Int := if PathsOk xss then (xss.countP (clean bad) : Nat) else -1
theorem countP_split {α : Type} (p q : α → Bool) : ∀ l : List α, l.countP p ≤ l.countP (fun x => p x && !q x) + l.countP q
  | [] => by simp
  | x :: l => by
    have ih := countP_split p q l
    simp only [List.countP_cons]
    cases p x <;> cases q x <;> simp <;> omega
theorem countP_one {α : Type} {p : α → Bool} : ∀ {l : List α}, l.Pairwise (fun a b => ¬ (p a = true ∧ p b = true)) → l.countP p ≤ 1
  | [], _ => by simp
  | x :: l, h => by
    rw [List.pairwise_cons] at h
    rw [List.countP_cons]
    by_cases hx : p x = true
    · have : l.countP p = 0 := List.countP_eq_zero.2 fun y hy hp => h.1 y hy ⟨hx, hp⟩
      rw [if_pos hx]; omega
    · have := countP_one h.2
      rw [if_neg hx]; omega
theorem clean_cons (b : Int) (bs xs : List Int) : clean (b :: bs) xs = (clean bs xs && !decide (b ∈ xs)) := by
  unfold clean
  rw [Bool.eq_iff_iff]
  simp only [List.all_eq_true, decide_eq_true_eq, Bool.and_eq_true, Bool.not_eq_true', decide_eq_false_iff_not, List.mem_cons, not_or]
  constructor
  · intro h
    exact ⟨fun x hx => (h x hx).2, fun hb => (h b hb).1 rfl⟩
  · rintro ⟨h1, h2⟩ x hx
    exact ⟨fun he => h2 (he ▸ hx), h1 x hx⟩
theorem Disj.honest {xss : List (List Int)} (h : Disj xss) : ∀ bad : List Int, xss.length ≤ xss.countP (clean bad) + bad.length
  | [] => by
    have : xss.countP (clean []) = xss.length := List.countP_eq_length.2 fun x _ => by simp [clean]
    omega
  | b :: bs => by
    have ih := Disj.honest h bs
    have h1 := countP_split (clean bs) (fun xs => decide (b ∈ xs)) xss
    have h2 : xss.countP (fun xs => decide (b ∈ xs)) ≤ 1 := countP_one ((Disj.pair.1 h).2.imp fun {x y} hxy hb => by
      simp only [decide_eq_true_eq] at hb
      exact hxy b hb.2 hb.1)
    have h3 : xss.countP (clean (b :: bs)) = xss.countP (fun xs => clean bs xs && !decide (b ∈ xs)) := by
      congr 1; funext xs; exact clean_cons b bs xs
    rw [List.length_cons]
    omega
theorem Maj.of {xs : List Int} {s x : Int} (h : Maj xs s) (h7 : xs.length ≤ 7) (hx : xs.length < 2 * xs.count x) : s = x :=
  h.uniq (.inr ⟨h7, .inl hx⟩)
end Go.Ro
