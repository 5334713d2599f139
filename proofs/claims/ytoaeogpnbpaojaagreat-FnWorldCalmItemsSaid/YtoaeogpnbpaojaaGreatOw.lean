/- Regions that draw their order and change the world: what only reads is taken first, what writes comes when nothing else can. What a slice of any elements holds at the start of a row. A slice of slices that the walk owns, inner ones and all. Conditions: those that each row states. -/
import Derived.Test.YtoaeogpnbpaojaaGreatPsM
import Derived.OrdersHeld
import Derived.Test.YtoaeogpnbpaojaaGreatFin
import Derived.Deep.Slices
namespace Go.Ro
open Go

theorem owp_mono {P : Program} {o : Oper} {a : Act} {w : World} {K K' : Act → World → Prop} {Q Q' : Exit → Act → World → Prop} (h : ∀ a w, K a w → K' a w) (hq : ∀ e a w, e ≠ .normal → Q e a w → Q' e a w)
    (hh : o.wp P a w K Q) : o.wp P a w K' Q' := by
  unfold Oper.wp at *
  generalize (execOp a.eval o).run P w = r at *
  cases r with
  | ok n w' =>
    cases n <;> simp only [Oper.upon] at hh ⊢ <;>
      first
        | exact h _ _ hh
        | exact Calls.mono hh (fun e w'' he => by cases e <;> first | exact h _ _ he | exact hq _ _ _ (by intro h; cases h) he | exact (let ⟨a, w, x⟩ := he; ⟨a, w, hq _ _ _ (by intro h; cases h) x⟩))
        | exact Rows.mono hh (fun _ _ he => h _ _ he)
  | halt x w' => cases x <;> simp only [Oper.upon] at hh ⊢ <;> first | exact hq _ _ _ (by intro h; cases h) hh | exact hh

def Nq (n : Nat) (Q : Po) : Exit → Act → World → Prop := fun e a w => e = .normal ∧ lift n Q .normal a w

def WX (P : Program) (n : Nat) (ops : Array Oper) (S : World → Prop) (Q : Po) (k : Nat) (l : List Bool) (f : Sl) (w : World) : Prop :=
  wpAnyH P .any ops (Nq n Q) S k l.toArray (mkA n f) w

section
variable {P : Program} {n : Nat} {Q : Po} {f : Sl} {w : World} {ops : Array Oper} {S S' : World → Prop} {k : Nat} {l l' : List Bool}

theorem held_mono (hS : ∀ w, S' w → S w) : ∀ (k : Nat) (l : Array Bool) (a : Act) (w : World) {Q : Exit → Act → World → Prop}, wpAnyH P .any ops Q S' k l a w → wpAnyH P .any ops Q S k l a w
  | 0, _, _, _, _, h => h
  | k + 1, _, _, _, _, h => ⟨h.1, fun i hi => wpOp_mono (fun a' w' h' => ⟨hS w' h'.1, held_mono hS k _ a' w' h'.2⟩) (h.2 i hi)⟩
theorem rgx {id : Nat} {ol : List Oper} (S : World → Prop) (l : List Bool) (k : Nat) (hm : P.follows .mixedOrders = true) (hl : Array.replicate ol.toArray.size false = l.toArray) (hk : ol.toArray.size = k) (hC : S { w with drawn := w.drawn + 1 })
    (h : ∀ w, S w → WX P n ol.toArray S Q k l f w) : W P n (.region id ol.toArray true) Q f w := by
  have h1 : (Code.region id ol.toArray true).wp P (Nq n Q) (mkA n f) w := by
    refine wp_region_held (S := S) hm ?_
    rw [hl, hk]; exact h _ hC
  refine wp_mono h1 ?_
  rintro e a w' ⟨rfl, hq⟩
  exact hq

theorem xd (hr : Region.ready .any ops l.toArray = []) (h : Q .normal f w) : WX P n ops S Q k l f w := wpAnyH_done hr ⟨rfl, f, rfl, h⟩ k

theorem listed_set {i : Nat} (hl : l.set i true = l') : l.toArray.setIfInBounds i true = l'.toArray := by
  subst hl; simp

/-- take an operation that yields its value in every world of S -/
theorem xt {i : Nat} {o : Oper} {v : Value} (hi : ops[i]? = some o) (hc : (Region.noSelect ops && Region.free .any ops l.toArray i && (Region.ready .any ops l.toArray).contains i) = true) (hl : l.set i true = l')
    (hg : Region.wanted o (yl n ops f) = true) (hy : ∀ w, S w → St P n o f w v w) (hS : S w) (h : WX P n ops S Q k l' (updO f o.dst v) w) : WX P n ops S Q (k + 1) l f w := by
  simp only [Bool.and_eq_true] at hc
  unfold WX at *
  refine wpAnyH_take (v := v) hi hc.1.1 hc.1.2 hc.2 (by rintro c a w ⟨h, _⟩; cases h) (.inl ⟨?_, fun w' hw' => ?_⟩) hS ?_
  · have : yielded ops (mkA n f).tmps = yl n ops f := funext fun j => yl_eq j
    rw [this]; exact hg
  · rw [mkA_evalF]; exact hy w' hw'
  · rw [listed_set hl, mkA_put]; exact h
/-- an operation whose guard does not hold -/
theorem xu {i : Nat} {o : Oper} (hi : ops[i]? = some o) (hc : (Region.noSelect ops && Region.free .any ops l.toArray i && (Region.ready .any ops l.toArray).contains i) = true) (hl : l.set i true = l')
    (hg : Region.wanted o (yl n ops f) = false) (hS : S w) (h : WX P n ops S Q k l' (updO f o.dst undef) w) : WX P n ops S Q (k + 1) l f w := by
  simp only [Bool.and_eq_true] at hc
  unfold WX at *
  refine wpAnyH_take (v := undef) hi hc.1.1 hc.1.2 hc.2 (by rintro c a w ⟨h, _⟩; cases h) (.inr ⟨?_, rfl⟩) hS ?_
  · have : yielded ops (mkA n f).tmps = yl n ops f := funext fun j => yl_eq j
    rw [this]; exact hg
  · rw [listed_set hl, mkA_put]; exact h

/-- what the walk of one operation must end in -/
def Xp (P : Program) (n : Nat) (ops : Array Oper) (S : World → Prop) (Q : Po) (k : Nat) (l : List Bool) : Po :=
  fun e g w => e = .normal ∧ ∃ S' : World → Prop, S' w ∧ (∀ w, S' w → S w) ∧ WX P n ops S' Q k l g w
theorem xn (S' : World → Prop) (h1 : S' w) (h2 : ∀ w, S' w → S w) (h : WX P n ops S' Q k l f w) : WL P n ops (Xp P n ops S Q k l) [] f w := nl ⟨rfl, S', h1, h2, h⟩
theorem xnk (h1 : S w) (h : S w → WX P n ops S Q k l f w) : WL P n ops (Xp P n ops S Q k l) [] f w := xn S h1 (fun _ h => h) (h h1)
theorem xop {i : Nat} {o : Oper} (hi : ops[i]? = some o) (hl : l.set i true = l') (h : WL P n ops (Xp P n ops S Q k l') [o] f w) :
    wpOp P ops (Nq n Q) i (fun a' w' => S w' ∧ wpAnyH P .any ops (Nq n Q) S k (l.toArray.setIfInBounds i true) a' w') (mkA n f) w := by
  rw [listed_set hl]
  unfold wpOp
  simp only [hi]
  unfold WL wpList at h
  split
  · rename_i hw
    rw [if_pos hw] at h
    refine .inl ?_
    rcases h with h | ⟨_, a, w, g, _, h, _⟩
    · refine owp_mono ?_ ?_ h
      · rintro a w' ⟨g, rfl, _, S', h1, h2, h3⟩
        exact ⟨h2 w' h1, held_mono h2 k _ _ _ h3⟩
      · rintro e a w' hne ⟨g, _, h, _⟩
        exact absurd h hne
    · cases h
  · rename_i hw
    rw [if_neg hw] at h
    obtain ⟨g, hg, _, S', h1, h2, h3⟩ := h
    rw [hg]
    exact ⟨h2 w h1, held_mono h2 k _ _ _ h3⟩
/-- the one operation that can come -/
theorem xe {i : Nat} {o : Oper} (hr : Region.ready .any ops l.toArray = [i]) (hi : ops[i]? = some o) (hl : l.set i true = l') (h : WL P n ops (Xp P n ops S Q k l') [o] f w) : WX P n ops S Q (k + 1) l f w := by
  refine wpAnyH_all hr (by simp) ?_
  intro j hj
  obtain rfl := List.mem_singleton.1 hj
  exact xop hi hl h
/-- two that can come -/
theorem xe2 {i j : Nat} {o u : Oper} {l2 : List Bool} (hr : Region.ready .any ops l.toArray = [i, j]) (hi : ops[i]? = some o) (hj : ops[j]? = some u) (hl : l.set i true = l') (hl2 : l.set j true = l2)
    (h : WL P n ops (Xp P n ops S Q k l') [o] f w) (h2 : WL P n ops (Xp P n ops S Q k l2) [u] f w) : WX P n ops S Q (k + 1) l f w := by
  refine wpAnyH_all hr (by simp) ?_
  intro a ha
  rcases List.mem_cons.1 ha with rfl | ha
  · exact xop hi hl h
  · obtain rfl := List.mem_singleton.1 ha
    exact xop hj hl2 h2
theorem xspl {t : Nat} {b : Bool} (hv : f t = .bool b) (h1 : b = true → WX P n ops S Q k l (upd f t (.bool true)) w) (h2 : b = false → WX P n ops S Q k l (upd f t (.bool false)) w) : WX P n ops S Q k l f w := by
  cases b
  · have := h2 rfl
    rw [upd_self hv] at this; exact this
  · have := h1 rfl
    rw [upd_self hv] at this; exact this
theorem xsplP {t : Nat} {p : Prop} [Decidable p] (hv : f t = .bool (decide p)) (h1 : p → WX P n ops S Q k l (upd f t (.bool true)) w) (h2 : ¬ p → WX P n ops S Q k l (upd f t (.bool false)) w) : WX P n ops S Q k l f w :=
  xspl hv (fun h => h1 (of_decide_eq_true h)) (fun h => h2 (of_decide_eq_false h))
end
end Go.Ro
namespace Go.Ro
open Go
section
variable {P : Program} {n : Nat} {Q : Po} {f : Sl} {w : World}
/-- with one condition for what is taken ahead and another for the walk -/
theorem rgs {id : Nat} {ol : List Oper} (S C : World → Prop) (l : List Bool) (k : Nat) (hm : P.follows .mixedOrders = true) (hl : Array.replicate ol.toArray.size false = l.toArray) (hk : ol.toArray.size = k)
    (hC : C { w with drawn := w.drawn + 1 }) (h : ∀ w, C w → WX P n ol.toArray S Q k l f w) : W P n (.region id ol.toArray true) Q f w := by
  have h1 : (Code.region id ol.toArray true).wp P (Nq n Q) (mkA n f) w := by
    refine wp_region_held (S := S) hm ?_
    rw [hl, hk]; exact h _ hC
  refine wp_mono h1 ?_
  rintro e a w' ⟨rfl, hq⟩
  exact hq
end
theorem K.sl {e w : World} {G : View} {L L' : Own} (hK : K e w G L) (h : L'.Sublist L := by repeat' (first | exact List.Sublist.refl _ | refine List.Sublist.cons_cons _ ?_ | refine List.Sublist.cons _ ?_ | refine List.Sublist.trans ?_ (List.sublist_append_right _ _))) : K e w G L' :=
  hK.sub (fun _ hx => h.subset hx) ((h.map _).nodup hK.nodup)
end Go.Ro
namespace Go.Ro
theorem K.midc {e w : World} {G : View} {x : Nat × Obj} {A B C : Own} (hK : K e w G (x :: (A ++ (B ++ C)))) : K e w G (x :: (B ++ (A ++ C))) :=
  hK.perm (List.Perm.cons _ (by rw [← List.append_assoc, ← List.append_assoc]; exact List.Perm.append_right _ List.perm_append_comm))
end Go.Ro
namespace Go.Ro
/-- what was shown to a callee comes back, whatever else the callee made -/
theorem K.unpub' {e w w' : World} {G : View} {A L L' : Own} (h : K e w G (A ++ L)) (h' : K e w' (addV G A) L') : K e w' G (A ++ L') := by
  have hnA : (A.map (·.1)).Nodup := by have := h.nodup; rw [List.map_append] at this; exact (List.nodup_append.1 this).1
  refine ⟨h'.tape, h'.os, h'.out, fun b o hb => h'.view b o (h.addV_le b o hb), ?_, ?_, ?_⟩
  · intro b o hb
    rcases List.mem_append.1 hb with hb | hb
    · exact h'.view b o (addV_mem hnA hb)
    · exact h'.own b o hb
  · intro b o hb
    rcases List.mem_append.1 hb with hb | hb
    · exact h.sep b o (List.mem_append_left _ hb)
    · have := h'.sep b o hb
      cases hg : G b with
      | none => rfl
      | some o' => rw [h.addV_le b o' hg] at this; cases this
  · rw [List.map_append, List.nodup_append]
    refine ⟨hnA, h'.nodup, ?_⟩
    intro a ha b hb hab
    obtain ⟨x, hx, rfl⟩ := List.mem_map.1 ha
    obtain ⟨y, hy, rfl⟩ := List.mem_map.1 hb
    have h1 := addV_mem (G := G) hnA hx
    have h2 := h'.sep y.1 y.2 hy
    rw [← hab, h1] at h2; cases h2
end Go.Ro

namespace Go.Ro
open Go Go.ChangeShapes Go.WideShapes Go.Deep

theorem choose_list {α : Type} {p : Nat → α → Prop} : ∀ n, (∀ i, i < n → ∃ x, p i x) → ∃ l : List α, l.length = n ∧ ∀ i x, l[i]? = some x → p i x
  | 0, _ => ⟨[], rfl, fun i x h => by simp at h⟩
  | n + 1, h => by
    obtain ⟨l, h1, h2⟩ := choose_list n (fun i hi => h i (by omega))
    obtain ⟨x, hx⟩ := h n (by omega)
    refine ⟨l ++ [x], by simp [h1], fun i y hi => ?_⟩
    rcases Nat.lt_or_ge i n with hl | hl
    · rw [List.getElem?_append_left (by omega)] at hi
      exact h2 i y hi
    · have : i < (l ++ [x]).length := (List.getElem?_eq_some_iff.1 hi).1
      have hin : i = n := by simp [h1] at this; omega
      subst hin
      rw [← h1, List.getElem?_append_right (Nat.le_refl _), Nat.sub_self] at hi
      obtain rfl := Option.some.inj hi
      exact hx

section
variable {H : Type} {enc : TypeId × Value → H} {P : Program} {w : World} {base : Nat} {spare : Nat → Bool} {held : Bool}

end
end Go.Ro

namespace Go.Ro
open Go
theorem count_sum {α : Type} [DecidableEq α] (a : α) : ∀ l : List α, l.count a = (l.map (fun x => if x = a then 1 else 0)).sum
  | [] => rfl
  | x :: l => by
    simp only [List.count_cons, List.map_cons, List.sum_cons, count_sum a l, beq_iff_eq]
    omega
/-- the same blocks in another order -/
theorem K.cnt {e w : World} {G : View} {L L' : Own} (hK : K e w G L) (h : ∀ f : Nat × Obj → Nat, (L'.map f).sum = (L.map f).sum) : K e w G L' := by
  classical
  refine hK.perm ((@List.perm_iff_count (Nat × Obj) instBEqOfDecidableEq inferInstance _ _).2 fun a => ?_)
  have := h (fun x => if x = a then 1 else 0)
  have h1 := count_sum a L
  have h2 := count_sum a L'
  exact h2.trans (this.trans h1.symm)
def OSS (t : TypeId) (us : List (Value × List Int × Own)) : Prop := ∀ p ∈ us, OS 1 t p.1 p.2.1.length (ints p.2.1) p.2.2
def vals (us : List (Value × List Int × Own)) : List Value := us.map (·.1)
def flat (us : List (Value × List Int × Own)) : Own := us.flatMap (·.2.2)
theorem K.reo {e w : World} {G : View} {L L' : Own} (hK : K e w G L) (h : ∀ f : Nat × Obj → Nat, (L'.map f).sum = (L.map f).sum := by intro f; simp only [List.map_append, List.map_cons, List.map_nil, List.sum_append, List.sum_cons, List.sum_nil]; omega) : K e w G L' := hK.cnt h
theorem om {p : Prop} (h : p := by first | omega | (simp only; omega)) : p := h
theorem kr {p : Prop} (h : p := by kernel_rfl) : p := h
theorem OSS.nil {t : TypeId} : OSS t [] := fun p hp => absurd hp (by simp)
theorem OSS.snoc {t : TypeId} {us : List (Value × List Int × Own)} (h : OSS t us) {v : Value} {xs : List Int} {A : Own} (ho : OS 1 t v xs.length (ints xs) A) : OSS t (us ++ [(v, xs, A)]) := by
  intro p hp
  rcases List.mem_append.1 hp with hp | hp
  · exact h p hp
  · rw [List.mem_singleton.1 hp]; exact ho
theorem flat_snoc (us : List (Value × List Int × Own)) (v : Value) (xs : List Int) (A : Own) : flat (us ++ [(v, xs, A)]) = flat us ++ A := by simp [flat]
/-- the inner ones join the view -/
theorem K.pubF {e w : World} {L : Own} {t : TypeId} : ∀ (us : List (Value × List Int × Own)) {G : View}, OSS t us → K e w G (flat us ++ L) → ∃ G', VLe G G' ∧ (∀ p ∈ us, IntS G' p.1 p.2.1) ∧ K e w G' L
  | [], G, _, hK => ⟨G, VLe.refl _, fun p hp => absurd hp (by simp), hK⟩
  | (v, xs, A) :: us, G, h, hK => by
    have hK' : K e w G (A ++ (flat us ++ L)) := by simpa [flat, List.append_assoc] using hK
    obtain ⟨G1, hG1, hv, hK1⟩ := hK'.pubO (h _ (List.mem_cons_self ..))
    obtain ⟨G2, hG2, hus, hK2⟩ := K.pubF us (fun p hp => h p (List.mem_cons_of_mem _ hp)) hK1
    refine ⟨G2, hG1.trans hG2, fun p hp => ?_, hK2⟩
    rcases List.mem_cons.1 hp with rfl | hp
    · exact hv.mono hG2
    · exact hus p hp
section
variable {P : Program} {n : Nat} {Q : Po} {f : Sl} {w : World} {ops : Array Oper} {rest : List Oper}
  {dst : Option Nat} {ty : TypeId} {pos : String} {af : Array Edge} {e : World} {G : View} {L A : Own}
end
theorem K.vle {e w : World} {G G' : View} {L : Own} (hK : K e w G' L) (hG : VLe G G') : K e w G L :=
  ⟨hK.tape, hK.os, hK.out, fun b o h => hK.view b o (hG b o h), hK.own, (fun b o h => by
    cases hb : G b with
    | none => rfl
    | some o' => have := hG b o' hb; rw [hK.sep b o h] at this; cases this), hK.nodup⟩
/-- the elements of a slice of slices, as values -/
theorem SS.list {α : Type} {E : View → Value → α → Prop} {G : View} {v : Value} {xs : List α} (h : SS E G v xs) :
    ∃ us : List Value, us.length = xs.length ∧ ∀ (i : Nat) (u : Value), us[i]? = some u → ∃ x, xs[i]? = some x ∧ cellV G (elA v i) = some u ∧ E G u x := by
  obtain ⟨us, h1, h2⟩ := choose_list (p := fun i u => ∃ x, xs[i]? = some x ∧ cellV G (elA v i) = some u ∧ E G u x) xs.length (fun i hi => by
    obtain ⟨u, hu, hx⟩ := h.at hi
    exact ⟨u, xs[i], List.getElem?_eq_getElem hi, hu, hx⟩)
  exact ⟨us, h1, h2⟩
end Go.Ro
