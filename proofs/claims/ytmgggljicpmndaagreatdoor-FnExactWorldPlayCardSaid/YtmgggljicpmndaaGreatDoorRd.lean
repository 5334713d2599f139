/- Answers of paths, in plain lists. Slices of slices; calls of function values. Paths, in plain lists. Regions that draw their order and change the world: what only reads is taken first, what writes comes when nothing else can. What a slice of any elements holds at the start of a row. Conditions: those that each row states. -/
import Derived.Test.YtmgggljicpmndaaGreatDoorMp
import Derived.OrdersHeld
import Derived.Test.YtmgggljicpmndaaGreatDoorFin
import Derived.Deep.Slices
namespace Go.Ro
theorem count_two {a b : Int} (h : a ≠ b) : ∀ l : List Int, l.count a + l.count b ≤ l.length
  | [] => by simp
  | x :: l => by
    have ih := count_two h l
    simp only [List.count_cons, List.length_cons, beq_iff_eq]
    split <;> split <;> omega
def Maj (xs : List Int) (r : Int) : Prop := (7 < xs.length ∧ r = -1) ∨ (xs.length ≤ 7 ∧ (xs.length < 2 * xs.count r ∨ (r = -1 ∧ ∀ a, 2 * xs.count a ≤ xs.length)))
theorem Maj.uniq {xs : List Int} {r s : Int} (h : Maj xs r) (h' : Maj xs s) : r = s := by
  rcases h with ⟨h1, rfl⟩ | ⟨h1, h⟩ <;> rcases h' with ⟨g1, rfl⟩ | ⟨g1, g⟩
  · rfl
  · omega
  · omega
  · rcases h with h | ⟨rfl, h⟩ <;> rcases g with g | ⟨rfl, g⟩
    · by_cases hrs : r = s
      · exact hrs
      · have := count_two hrs xs; omega
    · have := g r; omega
    · have := h s; omega
    · rfl
theorem Maj.mem {xs : List Int} {s : Int} (h : Maj xs s) : s = -1 ∨ s ∈ xs := by
  rcases h with ⟨_, h⟩ | ⟨_, h | ⟨h, _⟩⟩
  · exact .inl h
  · exact .inr (List.count_pos_iff.1 (by omega))
  · exact .inl h
open Go
/-! a slice whose elements are slices (or pointers) with a reading of their own -/
def ES {α : Type} (E : View → Value → α → Prop) (G : View) (cs : List Value) (x : α) : Prop := ∃ u, cs = [u] ∧ E G u x
abbrev SS {α : Type} (E : View → Value → α → Prop) := SlR 1 (ES E)
abbrev ISS := SS IntS
section
variable {α : Type} {E : View → Value → α → Prop} {G G' : View} {v : Value} {xs : List α}
theorem ES.mono (hm : ∀ u x, E G u x → E G' u x) {cs : List Value} {x : α} (h : ES E G cs x) : ES E G' cs x := let ⟨u, h1, h2⟩ := h; ⟨u, h1, hm u x h2⟩
theorem SS.mono (hm : ∀ u x, E G u x → E G' u x) (h : SS E G v xs) (hG : VLe G G') : SS E G' v xs := SlR.mono (fun _ _ => ES.mono hm) h hG
theorem SS.at (h : SS E G v xs) {i : Nat} (hi : i < xs.length) : ∃ u, cellV G (elA v i) = some u ∧ E G u xs[i] := by
  obtain ⟨cs, h1, h2, u, h3, h4⟩ := h.get hi
  refine ⟨u, ?_, h4⟩
  have := h2 0 u (by rw [h3]; rfl)
  simpa using this
end
theorem ISS.mono {G G' : View} {v : Value} {xs : List (List Int)} (h : ISS G v xs) (hG : VLe G G') : ISS G' v xs := SS.mono (fun _ _ h => IntS.mono h hG) h hG
theorem K.pubS {α : Type} {E : View → List Value → α → Prop} {e w : World} {G : View} {L A : Own} {sz t : Nat} {v : Value} {cs : List Value} {xs : List α} (hm : ∀ {G G' cs x}, VLe G G' → E G cs x → E G' cs x)
    (hK : K e w G (A ++ L)) (ho : OS sz t v xs.length cs A) (hE : ∀ i x, xs[i]? = some x → ∃ u, u.length = sz ∧ (∀ j c, u[j]? = some c → cs[i * sz + j]? = some c) ∧ E G u x) :
    ∃ G', VLe G G' ∧ SlR sz E G' v xs ∧ K e w G' L := by
  refine ⟨addV G A, hK.addV_le, ?_, hK.pub⟩
  refine OS.pub ho ho.nodup fun i x hx => ?_
  obtain ⟨u, h1, h2, h3⟩ := hE i x hx
  exact ⟨u, h1, h2, hm hK.addV_le h3⟩
section
variable {P : Program} {n : Nat} {Q : Po} {f : Sl} {w : World} {ops : Array Oper} {rest : List Oper}
  {dst : Option Nat} {ty : TypeId} {pos : String} {af : Array Edge} {C : World → Prop} {R : Sl → Prop}
theorem mkf {F : FuncId} {l : List Operand} {vs : List Value} (ha : l.map (ev n f) = vs) {g : Option (Nat × Bool)} :
    St P n ⟨dst, .makeFunc (.func F) #[] l.toArray, ty, pos, af, g⟩ f w (.func (.func F) #[] vs.toArray) w := by
  unfold St execOp
  simp [Instr.makeFunc, ha]
theorem cf {F : FuncId} {x : Operand} {l : List Operand} {ts : Array TypeId} {vs cap : List Value} {S : Value → World → Prop} (hf : ∀ args w, (callFunc F args).run P w = .ok (.enter F args) w)
    (hx : ev n f x = .func (.func F) #[] cap.toArray) (ha : l.map (ev n f) = vs) (hc : Ret P F (vs ++ cap).toArray w S)
    (h : ∀ v w', S v w' → WL P n ops Q rest (updO f dst v) w') :
    WL P n ops Q (⟨dst, .call ⟨.value x, l.toArray, ts⟩, ty, pos, af, none⟩ :: rest) f w := by
  refine cal (F := F) (args := (vs ++ cap).toArray) (w' := w) (R := S) rfl ?_ hc h
  unfold execOp
  simp only [resolve, hx, Deferred.ofValue, Sem.run_bind, Sem.run_pure, Result.andThen_ok, invoke, List.map_toArray, ha, List.append_toArray, List.nil_append]
  exact hf _ _
end
def PathOk (xs : List Int) : Prop := xs.length ≤ 10 ∧ ∀ x ∈ xs, 0 ≤ x ∧ x ≤ 63
def PathsOk (xss : List (List Int)) : Prop := xss.length ≤ 7 ∧ ∀ xs ∈ xss, PathOk xs
def Disj (xss : List (List Int)) : Prop := PathsOk xss ∧ ∀ i j, j < i → i < xss.length → ∀ x ∈ xss.getD i [], x ∉ xss.getD j []
theorem mem_getD {α : Type} {l : List α} {x d : α} {k : Nat} (h : k < l.length) (hx : l[k] = x) : l.getD k d = x := by simp [List.getD, h, hx]
theorem all_take {α : Type} {l : List α} {p : α → Prop} {i : Nat} (hi : i < l.length) (h : ∀ x ∈ l.take i, p x) (hx : p l[i]) : ∀ x ∈ l.take (i + 1), p x := by
  rw [List.take_succ_eq_append_getElem hi]
  intro x h1
  rcases List.mem_append.1 h1 with h1 | h1
  · exact h x h1
  · rw [List.mem_singleton.1 h1]; exact hx
theorem set_next {α : Type} {us : List α} {z u : α} {i m : Nat} (h : us.length = i) (hi : i < m) :
    (us ++ List.replicate (m - i) z).set (0 + i) u = (us ++ [u]) ++ List.replicate (m - (i + 1)) z := by
  subst h
  rw [Nat.zero_add, List.set_append_right _ _ (Nat.le_refl _), Nat.sub_self, show m - us.length = (m - (us.length + 1)) + 1 by omega, List.replicate_succ]
  simp
theorem getD_lt {α : Type} {l : List α} {d : α} {k : Nat} (h : k < l.length) : l.getD k d = l[k] := mem_getD h rfl
def IdxOf {α : Type} (q : α → Bool) (xs : List α) (i : Int) : Prop :=
  (i = -1 ∧ ∀ x ∈ xs, q x = false) ∨ ∃ k : Nat, i = k ∧ ∃ h : k < xs.length, q xs[k] = true ∧ ∀ x ∈ xs.take k, q x = false
theorem IdxOf.ge {α : Type} {q : α → Bool} {xs : List α} {i : Int} (h : IdxOf q xs i) : i ≥ 0 ↔ ∃ x ∈ xs, q x = true := by
  rcases h with ⟨rfl, h⟩ | ⟨k, rfl, hk, h1, _⟩
  · constructor
    · intro h0; omega
    · rintro ⟨x, hx, h1⟩; rw [h x hx] at h1; cases h1
  · exact ⟨fun _ => ⟨_, List.getElem_mem hk, h1⟩, fun _ => by omega⟩
instance (xs : List Int) : Decidable (PathOk xs) := by unfold PathOk; infer_instance
instance (xss : List (List Int)) : Decidable (PathsOk xss) := by unfold PathsOk; infer_instance
theorem Disj.step {xss : List (List Int)} {i : Nat} (h : ∀ a j, j < a → a < i → ∀ x ∈ xss.getD a [], x ∉ xss.getD j []) (h2 : ∀ x ∈ xss.getD i [], ∀ j, j < i → x ∉ xss.getD j []) :
    ∀ a j, j < a → a < i + 1 → ∀ x ∈ xss.getD a [], x ∉ xss.getD j [] := by
  intro a j hj ha x hx
  rcases Nat.lt_succ_iff_lt_or_eq.1 ha with h3 | rfl
  · exact h a j hj h3 x hx
  · exact h2 x hx j hj
def MapsTo (l : List (Int × Int)) (T : Int → Nat → Prop) : Prop := (∀ x a, T x a → lkI l x = some (a : Int)) ∧ (∀ x z, lkI l x = some z → ∃ a : Nat, z = a ∧ T x a)
def At (xss : List (List Int)) (i k : Nat) (x : Int) (a : Nat) : Prop := (a < i ∧ x ∈ xss.getD a []) ∨ (a = i ∧ x ∈ (xss.getD i []).take k)
theorem At.next {xss : List (List Int)} {i k : Nat} (hk : (xss.getD i []).length ≤ k) {x : Int} {a : Nat} : At xss i k x a ↔ At xss (i + 1) 0 x a := by
  unfold At
  rw [List.take_of_length_le hk]
  simp only [List.take_zero, List.not_mem_nil, and_false, or_false]
  constructor
  · rintro (⟨h1, h2⟩ | ⟨rfl, h2⟩)
    · exact ⟨by omega, h2⟩
    · exact ⟨by omega, h2⟩
  · rintro ⟨h1, h2⟩
    rcases Nat.lt_succ_iff_lt_or_eq.1 h1 with h1 | rfl
    · exact .inl ⟨h1, h2⟩
    · exact .inr ⟨rfl, h2⟩
theorem MapsTo.congr {l : List (Int × Int)} {T S : Int → Nat → Prop} (h : MapsTo l T) (hT : ∀ x a, T x a ↔ S x a) : MapsTo l S :=
  ⟨fun x a hs => h.1 x a ((hT x a).2 hs), fun x z hz => let ⟨a, h1, h2⟩ := h.2 x z hz; ⟨a, h1, (hT x a).1 h2⟩⟩
theorem MapsTo.step {xss : List (List Int)} {i k : Nat} {l : List (Int × Int)} {p : Int} (h : MapsTo l (At xss i k)) (hk : k < (xss.getD i []).length) (hp : (xss.getD i [])[k] = p)
    (hs : lkI l p = none ∨ lkI l p = some (i : Int)) : MapsTo (ups l p i) (At xss i (k + 1)) := by
  have hat : ∀ x a, At xss i (k + 1) x a ↔ At xss i k x a ∨ (a = i ∧ x = p) := by
    intro x a
    unfold At
    rw [List.take_succ_eq_append_getElem hk, hp]
    simp only [List.mem_append, List.mem_singleton]
    constructor
    · rintro (h | ⟨h1, h2 | h2⟩)
      · exact .inl (.inl h)
      · exact .inl (.inr ⟨h1, h2⟩)
      · exact .inr ⟨h1, h2⟩
    · rintro ((h | ⟨h1, h2⟩) | ⟨h1, h2⟩)
      · exact .inl h
      · exact .inr ⟨h1, .inl h2⟩
      · exact .inr ⟨h1, .inr h2⟩
  constructor
  · intro x a hx
    rw [lkI_ups]
    by_cases hxp : x = p
    · subst hxp
      rw [if_pos rfl]
      rcases (hat x a).1 hx with hx | ⟨rfl, _⟩
      · have := h.1 x a hx
        rcases hs with hs | hs
        · rw [hs] at this; cases this
        · rw [hs] at this; exact this
      · rfl
    · rw [if_neg hxp]
      rcases (hat x a).1 hx with hx | ⟨_, h2⟩
      · exact h.1 x a hx
      · exact absurd h2 hxp
  · intro x z hz
    rw [lkI_ups] at hz
    by_cases hxp : x = p
    · rw [if_pos hxp] at hz
      exact ⟨i, (Option.some.inj hz).symm, (hat x i).2 (.inr ⟨rfl, hxp⟩)⟩
    · rw [if_neg hxp] at hz
      obtain ⟨a, h1, h2⟩ := h.2 x z hz
      exact ⟨a, h1, (hat x a).2 (.inl h2)⟩
theorem Disj.pair {xss : List (List Int)} : Disj xss ↔ PathsOk xss ∧ xss.Pairwise (fun a b => ∀ x ∈ b, x ∉ a) := by
  unfold Disj
  rw [List.pairwise_iff_getElem]
  constructor
  · rintro ⟨h1, h2⟩
    refine ⟨h1, fun i j hi hj hij x hx => ?_⟩
    have := h2 j i hij hj x (by rw [getD_lt hj]; exact hx)
    rwa [getD_lt hi] at this
  · rintro ⟨h1, h2⟩
    refine ⟨h1, fun i j hij hi x hx => ?_⟩
    rw [getD_lt hi] at hx
    have := h2 j i (by omega) hi hij x hx
    rwa [getD_lt (show j < xss.length by omega)]
theorem Disj.ne {xss : List (List Int)} (h : Disj xss) {i k : Nat} (hik : i ≠ k) (hi : i < xss.length) (hk : k < xss.length) {x : Int} (hx : x ∈ xss[i]) : x ∉ xss[k] := by
  intro hx'
  rcases Nat.lt_or_gt_of_ne hik with h1 | h1
  · exact h.2 k i h1 hk x (by rw [getD_lt hk]; exact hx') (by rw [getD_lt hi]; exact hx)
  · exact h.2 i k h1 hi x (by rw [getD_lt hi]; exact hx) (by rw [getD_lt hk]; exact hx')
theorem Disj.sub {xss yss : List (List Int)} (h : Disj xss) (hs : yss.Sublist xss) : Disj yss := by
  rw [Disj.pair] at *
  exact ⟨⟨Nat.le_trans hs.length_le h.1.1, fun xs hx => h.1.2 xs (hs.subset hx)⟩, h.2.sublist hs⟩
def clean (bad : List Int) (xs : List Int) : Bool := xs.all (fun x => decide (x ∉ bad))
def honest (xss : List (List Int)) (bad : List Int) : Int := if PathsOk xss then (xss.countP (clean bad) : Nat) else -1
theorem countP_split {α : Type} (p q : α → Bool) : ∀ l : List α, l.countP p ≤ l.countP (fun x => p x && !q x) + l.countP q
  | [] => by simp
  | x :: l => by
    have ih := countP_split p q l
    simp only [List.countP_cons]
    cases p x <;> cases q x <;> simp <;> omega
theorem countP_one {α : Type} {p : α → Bool} : ∀ {l : List α}, l.Pairwise (fun a b => ¬ (p a = true ∧ p b = true)) → l.countP p ≤ 1
  | [], _ => by simp
  | x :: l, h => by
    rw [List.pairwise_cons] at h
    rw [List.countP_cons]
    by_cases hx : p x = true
    · have : l.countP p = 0 := List.countP_eq_zero.2 fun y hy hp => h.1 y hy ⟨hx, hp⟩
      rw [if_pos hx]; omega
    · have := countP_one h.2
      rw [if_neg hx]; omega
theorem clean_cons (b : Int) (bs xs : List Int) : clean (b :: bs) xs = (clean bs xs && !decide (b ∈ xs)) := by
  unfold clean
  rw [Bool.eq_iff_iff]
  simp only [List.all_eq_true, decide_eq_true_eq, Bool.and_eq_true, Bool.not_eq_true', decide_eq_false_iff_not, List.mem_cons, not_or]
  constructor
  · intro h
    exact ⟨fun x hx => (h x hx).2, fun hb => (h b hb).1 rfl⟩
  · rintro ⟨h1, h2⟩ x hx
    exact ⟨fun he => h2 (he ▸ hx), h1 x hx⟩
theorem Disj.honest {xss : List (List Int)} (h : Disj xss) : ∀ bad : List Int, xss.length ≤ xss.countP (clean bad) + bad.length
  | [] => by
    have : xss.countP (clean []) = xss.length := List.countP_eq_length.2 fun x _ => by simp [clean]
    omega
  | b :: bs => by
    have ih := Disj.honest h bs
    have h1 := countP_split (clean bs) (fun xs => decide (b ∈ xs)) xss
    have h2 : xss.countP (fun xs => decide (b ∈ xs)) ≤ 1 := countP_one ((Disj.pair.1 h).2.imp fun {x y} hxy hb => by
      simp only [decide_eq_true_eq] at hb
      exact hxy b hb.2 hb.1)
    have h3 : xss.countP (clean (b :: bs)) = xss.countP (fun xs => clean bs xs && !decide (b ∈ xs)) := by
      congr 1; funext xs; exact clean_cons b bs xs
    rw [List.length_cons]
    omega
theorem Maj.of {xs : List Int} {s x : Int} (h : Maj xs s) (h7 : xs.length ≤ 7) (hx : xs.length < 2 * xs.count x) : s = x :=
  h.uniq (.inr ⟨h7, .inl hx⟩)
open Go
theorem owp_mono {P : Program} {o : Oper} {a : Act} {w : World} {K K' : Act → World → Prop} {Q Q' : Exit → Act → World → Prop} (h : ∀ a w, K a w → K' a w) (hq : ∀ e a w, e ≠ .normal → Q e a w → Q' e a w)
    (hh : o.wp P a w K Q) : o.wp P a w K' Q' := by
  unfold Oper.wp at *
  generalize (execOp a.eval o).run P w = r at *
  cases r with
  | ok n w' =>
    cases n <;> simp only [Oper.upon] at hh ⊢ <;>
      first
        | exact h _ _ hh
        | exact Calls.mono hh (fun e w'' he => by cases e <;> first | exact h _ _ he | exact hq _ _ _ (by intro h; cases h) he | exact (let ⟨a, w, x⟩ := he; ⟨a, w, hq _ _ _ (by intro h; cases h) x⟩))
        | exact Rows.mono hh (fun _ _ he => h _ _ he)
  | halt x w' => cases x <;> simp only [Oper.upon] at hh ⊢ <;> first | exact hq _ _ _ (by intro h; cases h) hh | exact hh
def Nq (n : Nat) (Q : Po) : Exit → Act → World → Prop := fun e a w => e = .normal ∧ lift n Q .normal a w
def WX (P : Program) (n : Nat) (ops : Array Oper) (S : World → Prop) (Q : Po) (k : Nat) (l : List Bool) (f : Sl) (w : World) : Prop :=
  wpAnyH P .any ops (Nq n Q) S k l.toArray (mkA n f) w
section
variable {P : Program} {n : Nat} {Q : Po} {f : Sl} {w : World} {ops : Array Oper} {S S' : World → Prop} {k : Nat} {l l' : List Bool}
theorem held_mono (hS : ∀ w, S' w → S w) : ∀ (k : Nat) (l : Array Bool) (a : Act) (w : World) {Q : Exit → Act → World → Prop}, wpAnyH P .any ops Q S' k l a w → wpAnyH P .any ops Q S k l a w
  | 0, _, _, _, _, h => h
  | k + 1, _, _, _, _, h => ⟨h.1, fun i hi => wpOp_mono (fun a' w' h' => ⟨hS w' h'.1, held_mono hS k _ a' w' h'.2⟩) (h.2 i hi)⟩
theorem rgx {id : Nat} {ol : List Oper} (S : World → Prop) (l : List Bool) (k : Nat) (hm : P.follows .mixedOrders = true) (hl : Array.replicate ol.toArray.size false = l.toArray) (hk : ol.toArray.size = k) (hC : S { w with drawn := w.drawn + 1 })
    (h : ∀ w, S w → WX P n ol.toArray S Q k l f w) : W P n (.region id ol.toArray true) Q f w := by
  have h1 : (Code.region id ol.toArray true).wp P (Nq n Q) (mkA n f) w := by
    refine wp_region_held (S := S) hm ?_
    rw [hl, hk]; exact h _ hC
  refine wp_mono h1 ?_
  rintro e a w' ⟨rfl, hq⟩
  exact hq
theorem rgt {id : Nat} {ol : List Oper} (C : World → Prop) (l : List Bool) (k : Nat) (hm : P.follows .mixedOrders = true) (hl : Array.replicate ol.toArray.size false = l.toArray) (hk : ol.toArray.size = k)
    (hC : C { w with drawn := w.drawn + 1 }) (h : ∀ w, C w → WX P n ol.toArray (fun _ => True) Q k l f w) : W P n (.region id ol.toArray true) Q f w := by
  have h1 : (Code.region id ol.toArray true).wp P (Nq n Q) (mkA n f) w := by
    refine wp_region_held (S := fun _ => True) hm ?_
    rw [hl, hk]; exact h _ hC
  refine wp_mono h1 ?_
  rintro e a w' ⟨rfl, hq⟩
  exact hq
theorem xd (hr : Region.ready .any ops l.toArray = []) (h : Q .normal f w) : WX P n ops S Q k l f w := wpAnyH_done hr ⟨rfl, f, rfl, h⟩ k
theorem listed_set {i : Nat} (hl : l.set i true = l') : l.toArray.setIfInBounds i true = l'.toArray := by
  subst hl; simp
theorem xt {i : Nat} {o : Oper} {v : Value} (hi : ops[i]? = some o) (hc : (Region.noSelect ops && Region.free .any ops l.toArray i && (Region.ready .any ops l.toArray).contains i) = true) (hl : l.set i true = l')
    (hg : Region.wanted o (yl n ops f) = true) (hy : ∀ w, S w → St P n o f w v w) (hS : S w) (h : WX P n ops S Q k l' (updO f o.dst v) w) : WX P n ops S Q (k + 1) l f w := by
  simp only [Bool.and_eq_true] at hc
  unfold WX at *
  refine wpAnyH_take (v := v) hi hc.1.1 hc.1.2 hc.2 (by rintro c a w ⟨h, _⟩; cases h) (.inl ⟨?_, fun w' hw' => ?_⟩) hS ?_
  · have : yielded ops (mkA n f).tmps = yl n ops f := funext fun j => yl_eq j
    rw [this]; exact hg
  · rw [mkA_evalF]; exact hy w' hw'
  · rw [listed_set hl, mkA_put]; exact h
theorem xu {i : Nat} {o : Oper} (hi : ops[i]? = some o) (hc : (Region.noSelect ops && Region.free .any ops l.toArray i && (Region.ready .any ops l.toArray).contains i) = true) (hl : l.set i true = l')
    (hg : Region.wanted o (yl n ops f) = false) (hS : S w) (h : WX P n ops S Q k l' (updO f o.dst undef) w) : WX P n ops S Q (k + 1) l f w := by
  simp only [Bool.and_eq_true] at hc
  unfold WX at *
  refine wpAnyH_take (v := undef) hi hc.1.1 hc.1.2 hc.2 (by rintro c a w ⟨h, _⟩; cases h) (.inr ⟨?_, rfl⟩) hS ?_
  · have : yielded ops (mkA n f).tmps = yl n ops f := funext fun j => yl_eq j
    rw [this]; exact hg
  · rw [listed_set hl, mkA_put]; exact h
def Xp (P : Program) (n : Nat) (ops : Array Oper) (S : World → Prop) (Q : Po) (k : Nat) (l : List Bool) : Po :=
  fun e g w => e = .normal ∧ ∃ S' : World → Prop, S' w ∧ (∀ w, S' w → S w) ∧ WX P n ops S' Q k l g w
theorem xn (S' : World → Prop) (h1 : S' w) (h2 : ∀ w, S' w → S w) (h : WX P n ops S' Q k l f w) : WL P n ops (Xp P n ops S Q k l) [] f w := nl ⟨rfl, S', h1, h2, h⟩
theorem xnk (h1 : S w) (h : S w → WX P n ops S Q k l f w) : WL P n ops (Xp P n ops S Q k l) [] f w := xn S h1 (fun _ h => h) (h h1)
theorem xop {i : Nat} {o : Oper} (hi : ops[i]? = some o) (hl : l.set i true = l') (h : WL P n ops (Xp P n ops S Q k l') [o] f w) :
    wpOp P ops (Nq n Q) i (fun a' w' => S w' ∧ wpAnyH P .any ops (Nq n Q) S k (l.toArray.setIfInBounds i true) a' w') (mkA n f) w := by
  rw [listed_set hl]
  unfold wpOp
  simp only [hi]
  unfold WL wpList at h
  split
  · rename_i hw
    rw [if_pos hw] at h
    refine .inl ?_
    rcases h with h | ⟨_, a, w, g, _, h, _⟩
    · refine owp_mono ?_ ?_ h
      · rintro a w' ⟨g, rfl, _, S', h1, h2, h3⟩
        exact ⟨h2 w' h1, held_mono h2 k _ _ _ h3⟩
      · rintro e a w' hne ⟨g, _, h, _⟩
        exact absurd h hne
    · cases h
  · rename_i hw
    rw [if_neg hw] at h
    obtain ⟨g, hg, _, S', h1, h2, h3⟩ := h
    rw [hg]
    exact ⟨h2 w h1, held_mono h2 k _ _ _ h3⟩
theorem xe {i : Nat} {o : Oper} (hr : Region.ready .any ops l.toArray = [i]) (hi : ops[i]? = some o) (hl : l.set i true = l') (h : WL P n ops (Xp P n ops S Q k l') [o] f w) : WX P n ops S Q (k + 1) l f w := by
  refine wpAnyH_all hr (by simp) ?_
  intro j hj
  obtain rfl := List.mem_singleton.1 hj
  exact xop hi hl h
theorem xe2 {i j : Nat} {o u : Oper} {l2 : List Bool} (hr : Region.ready .any ops l.toArray = [i, j]) (hi : ops[i]? = some o) (hj : ops[j]? = some u) (hl : l.set i true = l') (hl2 : l.set j true = l2)
    (h : WL P n ops (Xp P n ops S Q k l') [o] f w) (h2 : WL P n ops (Xp P n ops S Q k l2) [u] f w) : WX P n ops S Q (k + 1) l f w := by
  refine wpAnyH_all hr (by simp) ?_
  intro a ha
  rcases List.mem_cons.1 ha with rfl | ha
  · exact xop hi hl h
  · obtain rfl := List.mem_singleton.1 ha
    exact xop hj hl2 h2
theorem xspl {t : Nat} {b : Bool} (hv : f t = .bool b) (h1 : b = true → WX P n ops S Q k l (upd f t (.bool true)) w) (h2 : b = false → WX P n ops S Q k l (upd f t (.bool false)) w) : WX P n ops S Q k l f w := by
  cases b
  · have := h2 rfl
    rw [upd_self hv] at this; exact this
  · have := h1 rfl
    rw [upd_self hv] at this; exact this
theorem xsplP {t : Nat} {p : Prop} [Decidable p] (hv : f t = .bool (decide p)) (h1 : p → WX P n ops S Q k l (upd f t (.bool true)) w) (h2 : ¬ p → WX P n ops S Q k l (upd f t (.bool false)) w) : WX P n ops S Q k l f w :=
  xspl hv (fun h => h1 (of_decide_eq_true h)) (fun h => h2 (of_decide_eq_false h))
end
open Go
section
variable {P : Program} {n : Nat} {Q : Po} {f : Sl} {w : World}
theorem rgs {id : Nat} {ol : List Oper} (S C : World → Prop) (l : List Bool) (k : Nat) (hm : P.follows .mixedOrders = true) (hl : Array.replicate ol.toArray.size false = l.toArray) (hk : ol.toArray.size = k)
    (hC : C { w with drawn := w.drawn + 1 }) (h : ∀ w, C w → WX P n ol.toArray S Q k l f w) : W P n (.region id ol.toArray true) Q f w := by
  have h1 : (Code.region id ol.toArray true).wp P (Nq n Q) (mkA n f) w := by
    refine wp_region_held (S := S) hm ?_
    rw [hl, hk]; exact h _ hC
  refine wp_mono h1 ?_
  rintro e a w' ⟨rfl, hq⟩
  exact hq
end
theorem K.sl {e w : World} {G : View} {L L' : Own} (hK : K e w G L) (h : L'.Sublist L := by repeat' (first | exact List.Sublist.refl _ | refine List.Sublist.cons_cons _ ?_ | refine List.Sublist.cons _ ?_ | refine List.Sublist.trans ?_ (List.sublist_append_right _ _))) : K e w G L' :=
  hK.sub (fun _ hx => h.subset hx) ((h.map _).nodup hK.nodup)
theorem K.midc {e w : World} {G : View} {x : Nat × Obj} {A B C : Own} (hK : K e w G (x :: (A ++ (B ++ C)))) : K e w G (x :: (B ++ (A ++ C))) :=
  hK.perm (List.Perm.cons _ (by rw [← List.append_assoc, ← List.append_assoc]; exact List.Perm.append_right _ List.perm_append_comm))
theorem K.unpub' {e w w' : World} {G : View} {A L L' : Own} (h : K e w G (A ++ L)) (h' : K e w' (addV G A) L') : K e w' G (A ++ L') := by
  have hnA : (A.map (·.1)).Nodup := by have := h.nodup; rw [List.map_append] at this; exact (List.nodup_append.1 this).1
  refine ⟨h'.tape, h'.os, h'.out, fun b o hb => h'.view b o (h.addV_le b o hb), ?_, ?_, ?_⟩
  · intro b o hb
    rcases List.mem_append.1 hb with hb | hb
    · exact h'.view b o (addV_mem hnA hb)
    · exact h'.own b o hb
  · intro b o hb
    rcases List.mem_append.1 hb with hb | hb
    · exact h.sep b o (List.mem_append_left _ hb)
    · have := h'.sep b o hb
      cases hg : G b with
      | none => rfl
      | some o' => rw [h.addV_le b o' hg] at this; cases this
  · rw [List.map_append, List.nodup_append]
    refine ⟨hnA, h'.nodup, ?_⟩
    intro a ha b hb hab
    obtain ⟨x, hx, rfl⟩ := List.mem_map.1 ha
    obtain ⟨y, hy, rfl⟩ := List.mem_map.1 hb
    have h1 := addV_mem (G := G) hnA hx
    have h2 := h'.sep y.1 y.2 hy
    rw [← hab, h1] at h2; cases h2
open Go Go.ChangeShapes Go.WideShapes Go.Deep
theorem choose_list {α : Type} {p : Nat → α → Prop} : ∀ n, (∀ i, i < n → ∃ x, p i x) → ∃ l : List α, l.length = n ∧ ∀ i x, l[i]? = some x → p i x
  | 0, _ => ⟨[], rfl, fun i x h => by simp at h⟩
  | n + 1, h => by
    obtain ⟨l, h1, h2⟩ := choose_list n (fun i hi => h i (by omega))
    obtain ⟨x, hx⟩ := h n (by omega)
    refine ⟨l ++ [x], by simp [h1], fun i y hi => ?_⟩
    rcases Nat.lt_or_ge i n with hl | hl
    · rw [List.getElem?_append_left (by omega)] at hi
      exact h2 i y hi
    · have : i < (l ++ [x]).length := (List.getElem?_eq_some_iff.1 hi).1
      have hin : i = n := by simp [h1] at this; omega
      subst hin
      rw [← h1, List.getElem?_append_right (Nat.le_refl _), Nat.sub_self] at hi
      obtain rfl := Option.some.inj hi
      exact hx
section
variable {H : Type} {enc : TypeId × Value → H} {P : Program} {w : World} {base : Nat} {spare : Nat → Bool} {held : Bool}
theorem read_sl {α : Type} {E : View → List Value → α → Prop} {t e : TypeId} {sz fuel : Nat} {v : Value} {x : DataW H × List MemPlace} (ht : P.underlying t = some (.slice e)) (hc : P.cellsOf e = sz) (hsz : 1 ≤ sz)
    (hel : ∀ fuel cs x, cs.length = sz → DataW.trod enc P w base spare held fuel e cs = some x → ∃ y, E (hvw w) cs y) (h : DataW.trod enc P w base spare held fuel t [v] = some x) :
    ∃ ys, SlR sz E (hvw w) v ys := by
  rcases open_slice ht h with ⟨hcs, _⟩ | ⟨a, len, cap, m, n, D, Pl, hcs, _, hl, hm, hmm, _, hx⟩
  · obtain rfl : v = .slice none 0 0 := by simpa using hcs
    exact ⟨[], nil_row⟩
  · obtain rfl : v = .slice (some a) len cap := by simpa using hcs
    have hlm : len ≤ m := by rw [hmm]; split <;> omega
    rw [hc] at hx
    obtain ⟨ys, h1, h2⟩ := choose_list (p := fun i y => ∃ cs, cs.length = sz ∧ (∀ j c, cs[j]? = some c → w.cell? (a.add (i * sz + j)) = some c) ∧ E (hvw w) cs y) len (fun i hi => by
      obtain ⟨cs, g1, g2⟩ := hx i (by omega)
      obtain ⟨_, g3, g4⟩ := World.cells?_some g1
      obtain ⟨y, hy⟩ := hel n cs _ g3 g2
      refine ⟨y, cs, g3, fun j c hj => ?_, hy⟩
      have hlt := (List.getElem?_eq_some_iff.1 hj).1
      have := g4 j (by omega)
      rw [hj, Addr.add_add] at this
      exact this)
    have hs : 0 < len → a = ⟨a.block, a.off, none⟩ := by
      intro h0
      obtain ⟨cs, g1, g2⟩ := hx 0 (by omega)
      obtain ⟨_, g3, g4⟩ := World.cells?_some g1
      have h1 := g4 0 (by omega)
      have he : (a.add (0 * sz)).add 0 = a := by cases a with | mk b o s => cases s <;> simp [Addr.add]
      rw [he, List.getElem?_eq_getElem (by omega)] at h1
      unfold World.cell? at h1
      cases hsp : a.spot with
      | none => cases a; simp only at hsp; subst hsp; rfl
      | some s =>
        cases hh : w.heap[a.block]? with
        | none => rw [hh] at h1; cases h1
        | some o => rw [hh] at h1; cases o <;> simp [hsp] at h1
    refine ⟨ys, ⟨some a, cap, by rw [h1], by omega, hm, ?_⟩, fun i y hi => ?_⟩
    · rcases Nat.eq_zero_or_pos len with h | h
      · left; omega
      · right; exact ⟨a.block, a.off, by rw [← hs h]⟩
    · obtain ⟨cs, g1, g2, g3⟩ := h2 i y hi
      refine ⟨cs, g1, fun j c hj => ?_, g3⟩
      have hlt := (List.getElem?_eq_some_iff.1 hi).1
      have hh := g2 j c hj
      have hadd : a.add (i * sz + j) = elA (.slice (some a) len cap) (i * sz + j) := by
        rw [hs (by omega)]; unfold Addr.add elA
        split
        · rename_i h0; rw [h0]; rfl
        · rfl
      rw [hadd] at hh
      exact hh
end
end Go.Ro
