/- Regions that draw their order and change the world: what only reads is taken first, what writes comes when nothing else can. Conditions: those that each row states. -/
import Derived.Test.YtbkfnnifkdgbkaaSs
import Derived.OrdersHeld
namespace Go.Ro
open Go

theorem owp_mono {P : Program} {o : Oper} {a : Act} {w : World} {K K' : Act → World → Prop} {Q Q' : Exit → Act → World → Prop} (h : ∀ a w, K a w → K' a w) (hq : ∀ e a w, e ≠ .normal → Q e a w → Q' e a w)
    (hh : o.wp P a w K Q) : o.wp P a w K' Q' := by
  unfold Oper.wp at *
  generalize (execOp a.eval o).run P w = r at *
  cases r with
  | ok n w' =>
    cases n <;> simp only [Oper.upon] at hh ⊢ <;>
      first
        | exact h _ _ hh
        | exact Calls.mono hh (fun e w'' he => by cases e <;> first | exact h _ _ he | exact hq _ _ _ (by intro h; cases h) he | exact (let ⟨a, w, x⟩ := he; ⟨a, w, hq _ _ _ (by intro h; cases h) x⟩))
        | exact Rows.mono hh (fun _ _ he => h _ _ he)
  | halt x w' => cases x <;> simp only [Oper.upon] at hh ⊢ <;> first | exact hq _ _ _ (by intro h; cases h) hh | exact hh

def Nq (n : Nat) (Q : Po) : Exit → Act → World → Prop := fun e a w => e = .normal ∧ lift n Q .normal a w

def WX (P : Program) (n : Nat) (ops : Array Oper) (S : World → Prop) (Q : Po) (k : Nat) (l : List Bool) (f : Sl) (w : World) : Prop :=
  wpAnyH P .any ops (Nq n Q) S k l.toArray (mkA n f) w

section
variable {P : Program} {n : Nat} {Q : Po} {f : Sl} {w : World} {ops : Array Oper} {S S' : World → Prop} {k : Nat} {l l' : List Bool}

theorem held_mono (hS : ∀ w, S' w → S w) : ∀ (k : Nat) (l : Array Bool) (a : Act) (w : World) {Q : Exit → Act → World → Prop}, wpAnyH P .any ops Q S' k l a w → wpAnyH P .any ops Q S k l a w
  | 0, _, _, _, _, h => h
  | k + 1, _, _, _, _, h => ⟨h.1, fun i hi => wpOp_mono (fun a' w' h' => ⟨hS w' h'.1, held_mono hS k _ a' w' h'.2⟩) (h.2 i hi)⟩
theorem xd (hr : Region.ready .any ops l.toArray = []) (h : Q .normal f w) : WX P n ops S Q k l f w := wpAnyH_done hr ⟨rfl, f, rfl, h⟩ k

theorem listed_set {i : Nat} (hl : l.set i true = l') : l.toArray.setIfInBounds i true = l'.toArray := by
  subst hl; simp

/-- take an operation that yields its value in every world of S -/
theorem xt {i : Nat} {o : Oper} {v : Value} (hi : ops[i]? = some o) (hc : (Region.noSelect ops && Region.free .any ops l.toArray i && (Region.ready .any ops l.toArray).contains i) = true) (hl : l.set i true = l')
    (hg : Region.wanted o (yl n ops f) = true) (hy : ∀ w, S w → St P n o f w v w) (hS : S w) (h : WX P n ops S Q k l' (updO f o.dst v) w) : WX P n ops S Q (k + 1) l f w := by
  simp only [Bool.and_eq_true] at hc
  unfold WX at *
  refine wpAnyH_take (v := v) hi hc.1.1 hc.1.2 hc.2 (by rintro c a w ⟨h, _⟩; cases h) (.inl ⟨?_, fun w' hw' => ?_⟩) hS ?_
  · have : yielded ops (mkA n f).tmps = yl n ops f := funext fun j => yl_eq j
    rw [this]; exact hg
  · rw [mkA_evalF]; exact hy w' hw'
  · rw [listed_set hl, mkA_put]; exact h
/-- what the walk of one operation must end in -/
def Xp (P : Program) (n : Nat) (ops : Array Oper) (S : World → Prop) (Q : Po) (k : Nat) (l : List Bool) : Po :=
  fun e g w => e = .normal ∧ ∃ S' : World → Prop, S' w ∧ (∀ w, S' w → S w) ∧ WX P n ops S' Q k l g w
theorem xn (S' : World → Prop) (h1 : S' w) (h2 : ∀ w, S' w → S w) (h : WX P n ops S' Q k l f w) : WL P n ops (Xp P n ops S Q k l) [] f w := nl ⟨rfl, S', h1, h2, h⟩
theorem xnk (h1 : S w) (h : S w → WX P n ops S Q k l f w) : WL P n ops (Xp P n ops S Q k l) [] f w := xn S h1 (fun _ h => h) (h h1)
theorem xop {i : Nat} {o : Oper} (hi : ops[i]? = some o) (hl : l.set i true = l') (h : WL P n ops (Xp P n ops S Q k l') [o] f w) :
    wpOp P ops (Nq n Q) i (fun a' w' => S w' ∧ wpAnyH P .any ops (Nq n Q) S k (l.toArray.setIfInBounds i true) a' w') (mkA n f) w := by
  rw [listed_set hl]
  unfold wpOp
  simp only [hi]
  unfold WL wpList at h
  split
  · rename_i hw
    rw [if_pos hw] at h
    refine .inl ?_
    rcases h with h | ⟨_, a, w, g, _, h, _⟩
    · refine owp_mono ?_ ?_ h
      · rintro a w' ⟨g, rfl, _, S', h1, h2, h3⟩
        exact ⟨h2 w' h1, held_mono h2 k _ _ _ h3⟩
      · rintro e a w' hne ⟨g, _, h, _⟩
        exact absurd h hne
    · cases h
  · rename_i hw
    rw [if_neg hw] at h
    obtain ⟨g, hg, _, S', h1, h2, h3⟩ := h
    rw [hg]
    exact ⟨h2 w h1, held_mono h2 k _ _ _ h3⟩
/-- the one operation that can come -/
theorem xe {i : Nat} {o : Oper} (hr : Region.ready .any ops l.toArray = [i]) (hi : ops[i]? = some o) (hl : l.set i true = l') (h : WL P n ops (Xp P n ops S Q k l') [o] f w) : WX P n ops S Q (k + 1) l f w := by
  refine wpAnyH_all hr (by simp) ?_
  intro j hj
  obtain rfl := List.mem_singleton.1 hj
  exact xop hi hl h
/-- two that can come -/
theorem xe2 {i j : Nat} {o u : Oper} {l2 : List Bool} (hr : Region.ready .any ops l.toArray = [i, j]) (hi : ops[i]? = some o) (hj : ops[j]? = some u) (hl : l.set i true = l') (hl2 : l.set j true = l2)
    (h : WL P n ops (Xp P n ops S Q k l') [o] f w) (h2 : WL P n ops (Xp P n ops S Q k l2) [u] f w) : WX P n ops S Q (k + 1) l f w := by
  refine wpAnyH_all hr (by simp) ?_
  intro a ha
  rcases List.mem_cons.1 ha with rfl | ha
  · exact xop hi hl h
  · obtain rfl := List.mem_singleton.1 ha
    exact xop hj hl2 h2
end
end Go.Ro
namespace Go.Ro
open Go
section
variable {P : Program} {n : Nat} {Q : Po} {f : Sl} {w : World}
/-- with one condition for what is taken ahead and another for the walk -/
theorem rgs {id : Nat} {ol : List Oper} (S C : World → Prop) (l : List Bool) (k : Nat) (hm : P.follows .mixedOrders = true) (hl : Array.replicate ol.toArray.size false = l.toArray) (hk : ol.toArray.size = k)
    (hC : C { w with drawn := w.drawn + 1 }) (h : ∀ w, C w → WX P n ol.toArray S Q k l f w) : W P n (.region id ol.toArray true) Q f w := by
  have h1 : (Code.region id ol.toArray true).wp P (Nq n Q) (mkA n f) w := by
    refine wp_region_held (S := S) hm ?_
    rw [hl, hk]; exact h _ hC
  refine wp_mono h1 ?_
  rintro e a w' ⟨rfl, hq⟩
  exact hq
end
theorem K.sl {e w : World} {G : View} {L L' : Own} (hK : K e w G L) (h : L'.Sublist L := by repeat' (first | exact List.Sublist.refl _ | refine List.Sublist.cons_cons _ ?_ | refine List.Sublist.cons _ ?_ | refine List.Sublist.trans ?_ (List.sublist_append_right _ _))) : K e w G L' :=
  hK.sub (fun _ hx => h.subset hx) ((h.map _).nodup hK.nodup)
end Go.Ro
namespace Go.Ro
theorem K.midc {e w : World} {G : View} {x : Nat × Obj} {A B C : Own} (hK : K e w G (x :: (A ++ (B ++ C)))) : K e w G (x :: (B ++ (A ++ C))) :=
  hK.perm (List.Perm.cons _ (by rw [← List.append_assoc, ← List.append_assoc]; exact List.Perm.append_right _ List.perm_append_comm))
end Go.Ro
namespace Go.Ro
/-- what was shown to a callee comes back, whatever else the callee made -/
theorem K.unpub' {e w w' : World} {G : View} {A L L' : Own} (h : K e w G (A ++ L)) (h' : K e w' (addV G A) L') : K e w' G (A ++ L') := by
  have hnA : (A.map (·.1)).Nodup := by have := h.nodup; rw [List.map_append] at this; exact (List.nodup_append.1 this).1
  refine ⟨h'.tape, h'.os, h'.out, fun b o hb => h'.view b o (h.addV_le b o hb), ?_, ?_, ?_⟩
  · intro b o hb
    rcases List.mem_append.1 hb with hb | hb
    · exact h'.view b o (addV_mem hnA hb)
    · exact h'.own b o hb
  · intro b o hb
    rcases List.mem_append.1 hb with hb | hb
    · exact h.sep b o (List.mem_append_left _ hb)
    · have := h'.sep b o hb
      cases hg : G b with
      | none => rfl
      | some o' => rw [h.addV_le b o' hg] at this; cases this
  · rw [List.map_append, List.nodup_append]
    refine ⟨hnA, h'.nodup, ?_⟩
    intro a ha b hb hab
    obtain ⟨x, hx, rfl⟩ := List.mem_map.1 ha
    obtain ⟨y, hy, rfl⟩ := List.mem_map.1 hb
    have h1 := addV_mem (G := G) hnA hx
    have h2 := h'.sep y.1 y.2 hy
    rw [← hab, h1] at h2; cases h2
end Go.Ro
