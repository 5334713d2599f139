/- Regions that draw their order and only read: one walk in the order of the text. Conditions: those that each row states. -/
import Derived.Test.YtbkfnnifkdgbkaaSli
import Derived.Deep.Quiet
namespace Go.Ro
open Go

section
variable {P : Program} {n : Nat} {Q : Po} {f : Sl} {w : World} {ops : Array Oper} {rest : List Oper}
  {dst : Option Tmp} {d : Nat} {ty : TypeId} {pos : String} {af : Array Edge} {C : World → Prop} {R : Sl → Prop}

def WQ (P : Program) (n : Nat) (ops : Array Oper) (C : World → Prop) (R : Sl → Prop) (l : List Oper) (f : Sl) : Prop :=
  wpQuiet P ops C (fun a => ∃ g, a = mkA n g ∧ R g) l (mkA n f)

theorem wpQuiet_mono {Q Q' : Act → Prop} (hq : ∀ a, Q a → Q' a) : ∀ (l : List Oper) (a : Act), wpQuiet P ops C Q l a → wpQuiet P ops C Q' l a := by
  intro l
  induction l with
  | nil => intro a h; exact hq a h
  | cons o l ih =>
    intro a h
    unfold wpQuiet at h ⊢
    split
    · rename_i hw
      rw [if_pos hw] at h
      obtain ⟨v, h1, h2⟩ := h
      exact ⟨v, h1, ih _ h2⟩
    · rename_i hw
      rw [if_neg hw] at h
      exact ih _ h

theorem rgq {id : Nat} {l : List Oper} (C : World → Prop) (hm : P.follows .mixedOrders = true) (hB : Region.lexB .any l.toArray = true) (hC : C { w with drawn := w.drawn + 1 })
    (h : WQ P n l.toArray C (fun g => ∀ w', C w' → Q .normal g w') l f) : W P n (.region id l.toArray true) Q f w := by
  refine wp_region_quiet (C := C) hm hB hC ?_
  have h' : wpQuiet P l.toArray C (fun a => ∃ g, a = mkA n g ∧ ∀ w', C w' → Q .normal g w') l (mkA n f) := h
  have := wpQuiet_mono (Q' := fun a' => ∀ w', C w' → lift n Q .normal a' w') (fun a ⟨g, ha, hq⟩ w' hw' => ⟨g, ha, hq w' hw'⟩) l _ h'
  simpa using this

theorem qn (h : R f) : WQ P n ops C R [] f := ⟨f, rfl, h⟩

theorem qval {o : Oper} {v : Value} (hg : o.guard = none) (hrun : ∀ w, C w → St P n o f w v w) (h : WQ P n ops C R rest (updO f o.dst v)) : WQ P n ops C R (o :: rest) f := by
  unfold WQ at *
  unfold wpQuiet
  rw [if_pos (by simp [Region.wanted, hg])]
  refine ⟨v, fun w hw => ?_, ?_⟩
  · unfold Oper.quietAt
    rw [mkA_evalF, show (execOp (ev n f) o).run P w = .ok (.value v) w from hrun w hw]
    exact ⟨rfl, rfl⟩
  · rw [mkA_put]; exact h
theorem qv {op : Op} {v : Value} (hrun : ∀ w, C w → St P n ⟨some d, op, ty, pos, af, none⟩ f w v w) (h : WQ P n ops C R rest (upd f d v)) :
    WQ P n ops C R (⟨some d, op, ty, pos, af, none⟩ :: rest) f := qval rfl hrun h

theorem qcl {F : FuncId} {l : List Operand} {ts : Array TypeId} {vs : List Value} {v : Value} (hf : ∀ args w, (callFunc F args).run P w = .ok (.enter F args) w)
    (ha : l.map (ev n f) = vs) (hc : ∀ w, C w → Ret P F vs.toArray w (fun r w' => r = v ∧ C w'))
    (h : WQ P n ops C R rest (updO f dst v)) : WQ P n ops C R (⟨dst, .call ⟨.value (.func F), l.toArray, ts⟩, ty, pos, af, none⟩ :: rest) f := by
  unfold WQ at *
  unfold wpQuiet
  rw [if_pos (by simp [Region.wanted])]
  refine ⟨v, fun w hw => ?_, ?_⟩
  · unfold Oper.quietAt
    rw [mkA_evalF]
    have hrun : (execOp (ev n f) ⟨dst, .call ⟨.value (.func F), l.toArray, ts⟩, ty, pos, af, none⟩).run P w = .ok (.enter F vs.toArray) w := by
      unfold execOp
      simp only [resolve, Deferred.ofValue, ev, Sem.run_bind, Sem.run_pure, Result.andThen_ok, invoke, List.map_toArray, ha, List.append_toArray, List.append_nil]
      exact hf _ _
    rw [hrun]
    refine ⟨rfl, Calls.mono (hc w hw) ?_⟩
    rintro e w' ⟨v', he, hv, hC⟩
    subst hv; exact ⟨he, hC⟩
  · rw [mkA_put]; exact h

theorem qgy {op : Op} {j : Nat} {b : Bool} (hy : yl n ops f j = some b) (h : WQ P n ops C R (⟨dst, op, ty, pos, af, none⟩ :: rest) f) :
    WQ P n ops C R (⟨dst, op, ty, pos, af, some (j, b)⟩ :: rest) f := by
  unfold WQ at *
  unfold wpQuiet at *
  have hw : Region.wanted ⟨dst, op, ty, pos, af, some (j, b)⟩ (yielded ops (mkA n f).tmps) = true := by simp [Region.wanted, yl_eq, hy]
  have hw' : Region.wanted ⟨dst, op, ty, pos, af, none⟩ (yielded ops (mkA n f).tmps) = true := rfl
  rw [if_pos hw]
  rw [if_pos hw'] at h
  exact h
theorem qgn {op : Op} {j : Nat} {b : Bool} (hy : yl n ops f j = some (!b)) (h : WQ P n ops C R rest (updO f dst undef)) :
    WQ P n ops C R (⟨dst, op, ty, pos, af, some (j, b)⟩ :: rest) f := by
  unfold WQ at *
  unfold wpQuiet
  have hw : ¬ Region.wanted ⟨dst, op, ty, pos, af, some (j, b)⟩ (yielded ops (mkA n f).tmps) = true := by simp [Region.wanted, yl_eq, hy]
  rw [if_neg hw, mkA_put]; exact h
theorem qgu {op : Op} {j : Nat} {b : Bool} (hy : yl n ops f j = none) (h : WQ P n ops C R rest (updO f dst undef)) :
    WQ P n ops C R (⟨dst, op, ty, pos, af, some (j, b)⟩ :: rest) f := by
  unfold WQ at *
  unfold wpQuiet
  have hw : ¬ Region.wanted ⟨dst, op, ty, pos, af, some (j, b)⟩ (yielded ops (mkA n f).tmps) = true := by simp [Region.wanted, yl_eq, hy]
  rw [if_neg hw, mkA_put]; exact h
theorem qspl {l : List Oper} {t : Nat} {b : Bool} (hv : f t = .bool b) (h1 : b = true → WQ P n ops C R l (upd f t (.bool true)))
    (h2 : b = false → WQ P n ops C R l (upd f t (.bool false))) : WQ P n ops C R l f := by
  cases b
  · have := h2 rfl
    rw [upd_self hv] at this; exact this
  · have := h1 rfl
    rw [upd_self hv] at this; exact this
theorem qsplP {l : List Oper} {t : Nat} {p : Prop} [Decidable p] (hv : f t = .bool (decide p)) (h1 : p → WQ P n ops C R l (upd f t (.bool true)))
    (h2 : ¬ p → WQ P n ops C R l (upd f t (.bool false))) : WQ P n ops C R l f :=
  qspl hv (fun h => h1 (of_decide_eq_true h)) (fun h => h2 (of_decide_eq_false h))

/-! conversions and shifts -/
end
end Go.Ro
