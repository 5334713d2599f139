/- Maps from int to int, made by the walk itself. Puzzles, in plain numbers. Answers of paths, in plain lists. Slices of slices; calls of function values. Paths, in plain lists. Conditions: those that each row states. -/
import Derived.Test.YtoaeogpnbpaojaaGreatMk
namespace Go.Ro
open Go

def ups : List (Int × Int) → Int → Int → List (Int × Int)
  | [], k, v => [(k, v)]
  | (a, b) :: l, k, v => if a = k then (k, v) :: l else (a, b) :: ups l k v
def lkI : List (Int × Int) → Int → Option Int
  | [], _ => none
  | (a, b) :: l, k => if a = k then some b else lkI l k
theorem lkI_ups (l : List (Int × Int)) (k v j : Int) : lkI (ups l k v) j = if j = k then some v else lkI l j := by
  induction l with
  | nil => simp only [ups, lkI]; by_cases h : k = j <;> simp [h]; intro h'; exact absurd h'.symm h
  | cons p l ih =>
    obtain ⟨a, b⟩ := p
    unfold ups
    by_cases h : a = k
    · subst h
      rw [if_pos rfl]
      simp only [lkI]
      by_cases h' : a = j
      · subst h'; simp
      · rw [if_neg h', if_neg h', if_neg (fun e => h' e.symm)]
    · rw [if_neg h]
      simp only [lkI]
      by_cases h' : a = j
      · subst h'; simp [h]
      · rw [if_neg h', if_neg h', ih]

def enE (p : Int × Int) : Value × Value := (.int .i64 p.1, .int .i64 p.2)
def MI (o : Obj) (l : List (Int × Int)) : Prop := ∃ es c, o = .map es c ∧ es.toList.map (fun e => (e.key, e.val)) = l.map enE

theorem MI.nil : MI (.map #[] 0) [] := ⟨_, _, rfl, rfl⟩

section
variable {P : Program} {n : Nat} {Q : Po} {f : Sl} {w : World} {ops : Array Oper} {rest : List Oper}
  {d : Nat} {dst : Option Tmp} {ty : TypeId} {pos : String} {af : Array Edge} {g : Option (Nat × Bool)} {e : World} {G : View} {L : Own}

end
end Go.Ro

namespace Go.Ro

def pzN (id nonce : Int) : Int := (31 * id + 17 * nonce + 5) % 1009
def pzHash (id nonce : Int) : Int := pzN id nonce * (pzN id nonce + nonce + 7) % 1009
def pzVal (id nonce : Int) : Int := if (0 ≤ id ∧ id ≤ 63) ∧ 0 ≤ nonce ∧ nonce ≤ 255 then pzHash id nonce else -1

def pzOk (id nonce bits : Int) : Prop := (0 ≤ id ∧ id ≤ 63) ∧ (0 ≤ nonce ∧ nonce ≤ 255) ∧ (0 ≤ bits ∧ bits ≤ 5) ∧ pzHash id nonce % 2 ^ bits.toNat = 0
instance (id nonce bits : Int) : Decidable (pzOk id nonce bits) := by unfold pzOk; infer_instance

/-- r is the smallest solution, or -1 where there is none -/
def PzSol (id bits r : Int) : Prop := (r = -1 ∧ ∀ j : Int, 0 ≤ j → j ≤ 255 → ¬ pzOk id j bits) ∨ (0 ≤ r ∧ pzOk id r bits ∧ ∀ j : Int, 0 ≤ j → j < r → ¬ pzOk id j bits)
theorem PzSol.uniq {id bits r s : Int} (h : PzSol id bits r) (h' : PzSol id bits s) : r = s := by
  rcases h with ⟨rfl, h⟩ | ⟨h0, h1, h2⟩ <;> rcases h' with ⟨rfl, h'⟩ | ⟨g0, g1, g2⟩
  · rfl
  · exact absurd g1 (h s g0 g1.2.1.2)
  · exact absurd h1 (h' r h0 h1.2.1.2)
  · rcases Int.lt_trichotomy r s with h | h | h
    · exact absurd h1 (g2 r h0 h)
    · exact h
    · exact absurd g1 (h2 s g0 h)

theorem pow_mod {h : Int} {c b : Nat} (hcb : c ≤ b) (hh : h % 2 ^ b = 0) : h % 2 ^ c = 0 := by
  have h1 : (2 : Int) ^ b ∣ h := Int.dvd_of_emod_eq_zero hh
  have h2 : (2 : Int) ^ c ∣ 2 ^ b := ⟨2 ^ (b - c), by rw [← Int.pow_add]; congr 1; omega⟩
  exact Int.emod_eq_zero_of_dvd (Int.dvd_trans h2 h1)
theorem pzOk.le {id n b c : Int} (h : pzOk id n b) (h0 : 0 ≤ c) (hc : c ≤ b) : pzOk id n c :=
  ⟨h.1, h.2.1, ⟨h0, Int.le_trans hc h.2.2.1.2⟩, pow_mod (by omega) h.2.2.2⟩
theorem PzSol.zero {id n b s : Int} (h : pzOk id n b) (hs : PzSol id 0 s) : s = 0 := by
  have h0 : pzOk id 0 0 := ⟨h.1, by decide, by decide, by simp⟩
  rcases hs with ⟨_, g⟩ | ⟨g0, g1, g2⟩
  · exact absurd h0 (g 0 (by omega) (by omega))
  · rcases Int.lt_or_eq_of_le g0 with g | g
    · exact absurd h0 (g2 0 (by omega) g)
    · exact g.symm
theorem PzSol.ok {id b r : Int} (h : PzSol id b r) (h0 : 0 ≤ r) : pzOk id r b := by
  rcases h with ⟨rfl, _⟩ | ⟨_, h1, _⟩
  · omega
  · exact h1
theorem PzSol.not {id b r : Int} (h : PzSol id b r) (j : Int) (h0 : 0 ≤ j) (hj : j ≤ 255) (hr : r < 0 ∨ j < r) : ¬ pzOk id j b := by
  rcases h with ⟨rfl, g⟩ | ⟨g0, _, g⟩
  · exact g j h0 hj
  · exact g j h0 (by omega)
end Go.Ro

namespace Go.Ro

theorem count_two {a b : Int} (h : a ≠ b) : ∀ l : List Int, l.count a + l.count b ≤ l.length
  | [] => by simp
  | x :: l => by
    have ih := count_two h l
    simp only [List.count_cons, List.length_cons, beq_iff_eq]
    split <;> split <;> omega

/-- r is what more than half of the answers are; or -1 -/
def Maj (xs : List Int) (r : Int) : Prop := (7 < xs.length ∧ r = -1) ∨ (xs.length ≤ 7 ∧ (xs.length < 2 * xs.count r ∨ (r = -1 ∧ ∀ a, 2 * xs.count a ≤ xs.length)))
theorem Maj.uniq {xs : List Int} {r s : Int} (h : Maj xs r) (h' : Maj xs s) : r = s := by
  rcases h with ⟨h1, rfl⟩ | ⟨h1, h⟩ <;> rcases h' with ⟨g1, rfl⟩ | ⟨g1, g⟩
  · rfl
  · omega
  · omega
  · rcases h with h | ⟨rfl, h⟩ <;> rcases g with g | ⟨rfl, g⟩
    · by_cases hrs : r = s
      · exact hrs
      · have := count_two hrs xs; omega
    · have := g r; omega
    · have := h s; omega
    · rfl
theorem Maj.mem {xs : List Int} {s : Int} (h : Maj xs s) : s = -1 ∨ s ∈ xs := by
  rcases h with ⟨_, h⟩ | ⟨_, h | ⟨h, _⟩⟩
  · exact .inl h
  · exact .inr (List.count_pos_iff.1 (by omega))
  · exact .inl h
end Go.Ro

namespace Go.Ro
open Go

/-! a slice whose elements are slices (or pointers) with a reading of their own -/
def ES {α : Type} (E : View → Value → α → Prop) (G : View) (cs : List Value) (x : α) : Prop := ∃ u, cs = [u] ∧ E G u x
abbrev SS {α : Type} (E : View → Value → α → Prop) := SlR 1 (ES E)
abbrev ISS := SS IntS
section
variable {α : Type} {E : View → Value → α → Prop} {G G' : View} {v : Value} {xs : List α}
theorem ES.mono (hm : ∀ u x, E G u x → E G' u x) {cs : List Value} {x : α} (h : ES E G cs x) : ES E G' cs x := let ⟨u, h1, h2⟩ := h; ⟨u, h1, hm u x h2⟩
theorem SS.mono (hm : ∀ u x, E G u x → E G' u x) (h : SS E G v xs) (hG : VLe G G') : SS E G' v xs := SlR.mono (fun _ _ => ES.mono hm) h hG
theorem SS.at (h : SS E G v xs) {i : Nat} (hi : i < xs.length) : ∃ u, cellV G (elA v i) = some u ∧ E G u xs[i] := by
  obtain ⟨cs, h1, h2, u, h3, h4⟩ := h.get hi
  refine ⟨u, ?_, h4⟩
  have := h2 0 u (by rw [h3]; rfl)
  simpa using this
end
theorem ISS.mono {G G' : View} {v : Value} {xs : List (List Int)} (h : ISS G v xs) (hG : VLe G G') : ISS G' v xs := SS.mono (fun _ _ h => IntS.mono h hG) h hG

/-- a slice that the walk owns joins the view -/
theorem K.pubS {α : Type} {E : View → List Value → α → Prop} {e w : World} {G : View} {L A : Own} {sz t : Nat} {v : Value} {cs : List Value} {xs : List α} (hm : ∀ {G G' cs x}, VLe G G' → E G cs x → E G' cs x)
    (hK : K e w G (A ++ L)) (ho : OS sz t v xs.length cs A) (hE : ∀ i x, xs[i]? = some x → ∃ u, u.length = sz ∧ (∀ j c, u[j]? = some c → cs[i * sz + j]? = some c) ∧ E G u x) :
    ∃ G', VLe G G' ∧ SlR sz E G' v xs ∧ K e w G' L := by
  refine ⟨addV G A, hK.addV_le, ?_, hK.pub⟩
  refine OS.pub ho ho.nodup fun i x hx => ?_
  obtain ⟨u, h1, h2, h3⟩ := hE i x hx
  exact ⟨u, h1, h2, hm hK.addV_le h3⟩
section
variable {P : Program} {n : Nat} {Q : Po} {f : Sl} {w : World} {ops : Array Oper} {rest : List Oper}
  {dst : Option Nat} {ty : TypeId} {pos : String} {af : Array Edge} {C : World → Prop} {R : Sl → Prop}

theorem mkf {F : FuncId} {l : List Operand} {vs : List Value} (ha : l.map (ev n f) = vs) {g : Option (Nat × Bool)} :
    St P n ⟨dst, .makeFunc (.func F) #[] l.toArray, ty, pos, af, g⟩ f w (.func (.func F) #[] vs.toArray) w := by
  unfold St execOp
  simp [Instr.makeFunc, ha]
/-- a call of a function value -/
theorem cf {F : FuncId} {x : Operand} {l : List Operand} {ts : Array TypeId} {vs cap : List Value} {S : Value → World → Prop} (hf : ∀ args w, (callFunc F args).run P w = .ok (.enter F args) w)
    (hx : ev n f x = .func (.func F) #[] cap.toArray) (ha : l.map (ev n f) = vs) (hc : Ret P F (vs ++ cap).toArray w S)
    (h : ∀ v w', S v w' → WL P n ops Q rest (updO f dst v) w') :
    WL P n ops Q (⟨dst, .call ⟨.value x, l.toArray, ts⟩, ty, pos, af, none⟩ :: rest) f w := by
  refine cal (F := F) (args := (vs ++ cap).toArray) (w' := w) (R := S) rfl ?_ hc h
  unfold execOp
  simp only [resolve, hx, Deferred.ofValue, Sem.run_bind, Sem.run_pure, Result.andThen_ok, invoke, List.map_toArray, ha, List.append_toArray, List.nil_append]
  exact hf _ _
end
end Go.Ro

namespace Go.Ro
def PathOk (xs : List Int) : Prop := xs.length ≤ 10 ∧ ∀ x ∈ xs, 0 ≤ x ∧ x ≤ 63
def PathsOk (xss : List (List Int)) : Prop := xss.length ≤ 7 ∧ ∀ xs ∈ xss, PathOk xs
def Disj (xss : List (List Int)) : Prop := PathsOk xss ∧ ∀ i j, j < i → i < xss.length → ∀ x ∈ xss.getD i [], x ∉ xss.getD j []
theorem mem_getD {α : Type} {l : List α} {x d : α} {k : Nat} (h : k < l.length) (hx : l[k] = x) : l.getD k d = x := by simp [List.getD, h, hx]
theorem all_take {α : Type} {l : List α} {p : α → Prop} {i : Nat} (hi : i < l.length) (h : ∀ x ∈ l.take i, p x) (hx : p l[i]) : ∀ x ∈ l.take (i + 1), p x := by
  rw [List.take_succ_eq_append_getElem hi]
  intro x h1
  rcases List.mem_append.1 h1 with h1 | h1
  · exact h x h1
  · rw [List.mem_singleton.1 h1]; exact hx
theorem getD_lt {α : Type} {l : List α} {d : α} {k : Nat} (h : k < l.length) : l.getD k d = l[k] := mem_getD h rfl
/-- i is the first place where q holds, or -1 -/
def IdxOf {α : Type} (q : α → Bool) (xs : List α) (i : Int) : Prop :=
  (i = -1 ∧ ∀ x ∈ xs, q x = false) ∨ ∃ k : Nat, i = k ∧ ∃ h : k < xs.length, q xs[k] = true ∧ ∀ x ∈ xs.take k, q x = false
theorem IdxOf.ge {α : Type} {q : α → Bool} {xs : List α} {i : Int} (h : IdxOf q xs i) : i ≥ 0 ↔ ∃ x ∈ xs, q x = true := by
  rcases h with ⟨rfl, h⟩ | ⟨k, rfl, hk, h1, _⟩
  · constructor
    · intro h0; omega
    · rintro ⟨x, hx, h1⟩; rw [h x hx] at h1; cases h1
  · exact ⟨fun _ => ⟨_, List.getElem_mem hk, h1⟩, fun _ => by omega⟩
instance (xs : List Int) : Decidable (PathOk xs) := by unfold PathOk; infer_instance
instance (xss : List (List Int)) : Decidable (PathsOk xss) := by unfold PathsOk; infer_instance
/-- what is known of a run through the paths: all pairs below i, and below k in path i -/
theorem Disj.step {xss : List (List Int)} {i : Nat} (h : ∀ a j, j < a → a < i → ∀ x ∈ xss.getD a [], x ∉ xss.getD j []) (h2 : ∀ x ∈ xss.getD i [], ∀ j, j < i → x ∉ xss.getD j []) :
    ∀ a j, j < a → a < i + 1 → ∀ x ∈ xss.getD a [], x ∉ xss.getD j [] := by
  intro a j hj ha x hx
  rcases Nat.lt_succ_iff_lt_or_eq.1 ha with h3 | rfl
  · exact h a j hj h3 x hx
  · exact h2 x hx j hj
def MapsTo (l : List (Int × Int)) (T : Int → Nat → Prop) : Prop := (∀ x a, T x a → lkI l x = some (a : Int)) ∧ (∀ x z, lkI l x = some z → ∃ a : Nat, z = a ∧ T x a)
def At (xss : List (List Int)) (i k : Nat) (x : Int) (a : Nat) : Prop := (a < i ∧ x ∈ xss.getD a []) ∨ (a = i ∧ x ∈ (xss.getD i []).take k)
theorem At.next {xss : List (List Int)} {i k : Nat} (hk : (xss.getD i []).length ≤ k) {x : Int} {a : Nat} : At xss i k x a ↔ At xss (i + 1) 0 x a := by
  unfold At
  rw [List.take_of_length_le hk]
  simp only [List.take_zero, List.not_mem_nil, and_false, or_false]
  constructor
  · rintro (⟨h1, h2⟩ | ⟨rfl, h2⟩)
    · exact ⟨by omega, h2⟩
    · exact ⟨by omega, h2⟩
  · rintro ⟨h1, h2⟩
    rcases Nat.lt_succ_iff_lt_or_eq.1 h1 with h1 | rfl
    · exact .inl ⟨h1, h2⟩
    · exact .inr ⟨rfl, h2⟩
theorem MapsTo.congr {l : List (Int × Int)} {T S : Int → Nat → Prop} (h : MapsTo l T) (hT : ∀ x a, T x a ↔ S x a) : MapsTo l S :=
  ⟨fun x a hs => h.1 x a ((hT x a).2 hs), fun x z hz => let ⟨a, h1, h2⟩ := h.2 x z hz; ⟨a, h1, (hT x a).1 h2⟩⟩
theorem MapsTo.step {xss : List (List Int)} {i k : Nat} {l : List (Int × Int)} {p : Int} (h : MapsTo l (At xss i k)) (hk : k < (xss.getD i []).length) (hp : (xss.getD i [])[k] = p)
    (hs : lkI l p = none ∨ lkI l p = some (i : Int)) : MapsTo (ups l p i) (At xss i (k + 1)) := by
  have hat : ∀ x a, At xss i (k + 1) x a ↔ At xss i k x a ∨ (a = i ∧ x = p) := by
    intro x a
    unfold At
    rw [List.take_succ_eq_append_getElem hk, hp]
    simp only [List.mem_append, List.mem_singleton]
    constructor
    · rintro (h | ⟨h1, h2 | h2⟩)
      · exact .inl (.inl h)
      · exact .inl (.inr ⟨h1, h2⟩)
      · exact .inr ⟨h1, h2⟩
    · rintro ((h | ⟨h1, h2⟩) | ⟨h1, h2⟩)
      · exact .inl h
      · exact .inr ⟨h1, .inl h2⟩
      · exact .inr ⟨h1, .inr h2⟩
  constructor
  · intro x a hx
    rw [lkI_ups]
    by_cases hxp : x = p
    · subst hxp
      rw [if_pos rfl]
      rcases (hat x a).1 hx with hx | ⟨rfl, _⟩
      · have := h.1 x a hx
        rcases hs with hs | hs
        · rw [hs] at this; cases this
        · rw [hs] at this; exact this
      · rfl
    · rw [if_neg hxp]
      rcases (hat x a).1 hx with hx | ⟨_, h2⟩
      · exact h.1 x a hx
      · exact absurd h2 hxp
  · intro x z hz
    rw [lkI_ups] at hz
    by_cases hxp : x = p
    · rw [if_pos hxp] at hz
      exact ⟨i, (Option.some.inj hz).symm, (hat x i).2 (.inr ⟨rfl, hxp⟩)⟩
    · rw [if_neg hxp] at hz
      obtain ⟨a, h1, h2⟩ := h.2 x z hz
      exact ⟨a, h1, (hat x a).2 (.inl h2)⟩
theorem Disj.pair {xss : List (List Int)} : Disj xss ↔ PathsOk xss ∧ xss.Pairwise (fun a b => ∀ x ∈ b, x ∉ a) := by
  unfold Disj
  rw [List.pairwise_iff_getElem]
  constructor
  · rintro ⟨h1, h2⟩
    refine ⟨h1, fun i j hi hj hij x hx => ?_⟩
    have := h2 j i hij hj x (by rw [getD_lt hj]; exact hx)
    rwa [getD_lt hi] at this
  · rintro ⟨h1, h2⟩
    refine ⟨h1, fun i j hij hi x hx => ?_⟩
    rw [getD_lt hi] at hx
    have := h2 j i (by omega) hi hij x hx
    rwa [getD_lt (show j < xss.length by omega)]
theorem Disj.ne {xss : List (List Int)} (h : Disj xss) {i k : Nat} (hik : i ≠ k) (hi : i < xss.length) (hk : k < xss.length) {x : Int} (hx : x ∈ xss[i]) : x ∉ xss[k] := by
  intro hx'
  rcases Nat.lt_or_gt_of_ne hik with h1 | h1
  · exact h.2 k i h1 hk x (by rw [getD_lt hk]; exact hx') (by rw [getD_lt hi]; exact hx)
  · exact h.2 i k h1 hi x (by rw [getD_lt hi]; exact hx) (by rw [getD_lt hk]; exact hx')
theorem Disj.sub {xss yss : List (List Int)} (h : Disj xss) (hs : yss.Sublist xss) : Disj yss := by
  rw [Disj.pair] at *
  exact ⟨⟨Nat.le_trans hs.length_le h.1.1, fun xs hx => h.1.2 xs (hs.subset hx)⟩, h.2.sublist hs⟩
theorem Disj.erase {xss : List (List Int)} (h : Disj xss) (k : Nat) : Disj (xss.take k ++ xss.drop (k + 1)) := by
  rw [← List.eraseIdx_eq_take_drop_succ]
  exact h.sub (List.eraseIdx_sublist ..)
def clean (bad : List Int) (xs : List Int) : Bool := xs.all (fun x => decide (x ∉ bad))
def honest (xss : List (List Int)) (bad : List Int) : Int := if PathsOk xss then (xss.countP (clean bad) : Nat) else -1
theorem countP_split {α : Type} (p q : α → Bool) : ∀ l : List α, l.countP p ≤ l.countP (fun x => p x && !q x) + l.countP q
  | [] => by simp
  | x :: l => by
    have ih := countP_split p q l
    simp only [List.countP_cons]
    cases p x <;> cases q x <;> simp <;> omega
theorem countP_one {α : Type} {p : α → Bool} : ∀ {l : List α}, l.Pairwise (fun a b => ¬ (p a = true ∧ p b = true)) → l.countP p ≤ 1
  | [], _ => by simp
  | x :: l, h => by
    rw [List.pairwise_cons] at h
    rw [List.countP_cons]
    by_cases hx : p x = true
    · have : l.countP p = 0 := List.countP_eq_zero.2 fun y hy hp => h.1 y hy ⟨hx, hp⟩
      rw [if_pos hx]; omega
    · have := countP_one h.2
      rw [if_neg hx]; omega
theorem clean_cons (b : Int) (bs xs : List Int) : clean (b :: bs) xs = (clean bs xs && !decide (b ∈ xs)) := by
  unfold clean
  rw [Bool.eq_iff_iff]
  simp only [List.all_eq_true, decide_eq_true_eq, Bool.and_eq_true, Bool.not_eq_true', decide_eq_false_iff_not, List.mem_cons, not_or]
  constructor
  · intro h
    exact ⟨fun x hx => (h x hx).2, fun hb => (h b hb).1 rfl⟩
  · rintro ⟨h1, h2⟩ x hx
    exact ⟨fun he => h2 (he ▸ hx), h1 x hx⟩
theorem Disj.honest {xss : List (List Int)} (h : Disj xss) : ∀ bad : List Int, xss.length ≤ xss.countP (clean bad) + bad.length
  | [] => by
    have : xss.countP (clean []) = xss.length := List.countP_eq_length.2 fun x _ => by simp [clean]
    omega
  | b :: bs => by
    have ih := Disj.honest h bs
    have h1 := countP_split (clean bs) (fun xs => decide (b ∈ xs)) xss
    have h2 : xss.countP (fun xs => decide (b ∈ xs)) ≤ 1 := countP_one ((Disj.pair.1 h).2.imp fun {x y} hxy hb => by
      simp only [decide_eq_true_eq] at hb
      exact hxy b hb.2 hb.1)
    have h3 : xss.countP (clean (b :: bs)) = xss.countP (fun xs => clean bs xs && !decide (b ∈ xs)) := by
      congr 1; funext xs; exact clean_cons b bs xs
    rw [List.length_cons]
    omega
theorem Maj.of {xs : List Int} {s x : Int} (h : Maj xs s) (h7 : xs.length ≤ 7) (hx : xs.length < 2 * xs.count x) : s = x :=
  h.uniq (.inr ⟨h7, .inl hx⟩)
end Go.Ro
