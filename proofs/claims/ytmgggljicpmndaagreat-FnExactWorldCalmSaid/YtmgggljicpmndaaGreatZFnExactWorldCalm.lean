/-
  The statement Rows.FnExactWorldCalmSaid is proved: for every input the law FnExactWorldCalm returns true, and its arguments read as before.
  Conditions: none.
-/
import Derived.Test.YtmgggljicpmndaaGreatRows
import Derived.WalkKit
import Derived.ProofKit
import Derived.OpenShut
import Derived.StringKeys
import Derived.Test.YtmgggljicpmndaaGreatLeM
import Derived.Test.YtmgggljicpmndaaGreatXc1
namespace Go.Proofs.YtmgggljicpmndaaGreat.fnExactWorldCalm
open Go.ChangeShapes Go.WideShapes Go.ChangeAt Go.RowKit Go.Ro
set_option linter.unusedVariables false

theorem own : ownKnob Tryz.prog.godebug = none := by kernel_rfl
theorem laidOut : laidOutB Tryz.prog = true := by kernel_rfl

set_option maxRecDepth 100000 in
theorem lifted (os : Os) (started : os.Started) (H : Type) (enc : TypeId × Value → H) :
    ReturnsInHanded {} Tryz.checked os 3 .any (Rows.fnExactWorldCalmSpec.pre6 enc Tryz.prog Tryz.f3 Rows.fnExactWorldCalmRow.domain false) (Rows.fnExactWorldCalmSpec.post enc Tryz.prog Tryz.f3 false true false false) := by
  refine returnsInHanded_of_change (C := Tryz.checked) own started (by kernel_rfl) Tryz.func3
    (ChangeSpec.witness6 (enc := enc) (C := Tryz.checked) false ⟨#[], #[.agg #[.int .i64 0, .slice none 0 0, .slice none 0 0, .slice none 0 0, .int .i64 0, .slice none 0 0, .slice none 0 0]], []⟩ 8 (by kernel_rfl) (by kernel_rfl) (by kernel_rfl) (by kernel_rfl)) ?_
  intro W base args ds gs before hval0 hW hcnd _
  have hval : ∀ (j : Nat) t v, Tryz.f3.params[j]? = some t → args[j]? = some v → Value.okWide Tryz.prog W .any base t v := hval0
  have hW' := hW
  obtain ⟨p, q, hA0, hV, rfl, hfz, hnd⟩ := hW
  have hA : DataW.TrodAll enc Tryz.prog W 0 (fun _ => true) true Tryz.f3.params.toList args.toList ds p := hA0
  rw [Tryz.params3] at hA hval
  obtain ⟨v0, vs0, d0, ds0, p0, q0, hargs, rfl, rfl, h0, r0⟩ := trodAll_cons hA
  obtain ⟨rfl, rfl, rfl⟩ := trodAll_nil r0
  obtain rfl : args = #[v0] := by cases args; simp_all
  obtain ⟨rfl, rfl⟩ := trodVars_none hV
  obtain ⟨c0, rfl, s0⟩ := okWide_struct Tryz.underlying29 (hval 0 29 v0 rfl rfl)
  have k0 := h0
  have lt0 : ∀ x ∈ p0, x.block < W.heap.size := by obtain ⟨m, hm⟩ := k0; exact DataW.trod_lt m _ _ _ hm
  obtain ⟨X0, wd0, rs0, rfl, w0⟩ : ∃ X wd rs, c0 = (wc X).toArray ∧ WdS (hvw W) lc X wd rs := by
    obtain ⟨fuel, hf⟩ := h0
    exact read_world Tryz.underlying29 (by kernel_rfl) ⟨rfl, rfl, rfl, rfl, rfl, rfl⟩ ⟨by kernel_rfl, by kernel_rfl, by kernel_rfl, by kernel_rfl, by kernel_rfl, by kernel_rfl⟩ Tryz.underlying3 Tryz.underlying22 Tryz.underlying23 Tryz.underlying24 Tryz.underlying25 ⟨Tryz.underlying3, by kernel_rfl⟩ ⟨by kernel_rfl, by kernel_rfl, by kernel_rfl⟩
      (fun fuel cs x hl hx => read_nd Tryz.underlying68 (by kernel_rfl) ⟨rfl, by kernel_rfl, Tryz.underlying3⟩ ⟨rfl, by kernel_rfl, Tryz.underlying3⟩ ⟨rfl, by kernel_rfl, Tryz.underlying25⟩ ⟨Tryz.underlying3, by kernel_rfl⟩ hl hx)
      (fun fuel cs x hl hx => read_lc (lc := lc) (fun _ _ _ => rfl) Tryz.underlying82 (by kernel_rfl) ⟨rfl, by kernel_rfl, Tryz.underlying3⟩ ⟨rfl, by kernel_rfl, Tryz.underlying3⟩ ⟨rfl, by kernel_rfl, Tryz.underlying3⟩ hl hx)
      (fun fuel cs x hl hx => read_it Tryz.underlying86 (by kernel_rfl) ⟨rfl, by kernel_rfl, Tryz.underlying3⟩ ⟨rfl, by kernel_rfl, Tryz.underlying3⟩ hl hx)
      (fun fuel cs x hl hx => read_scanL Tryz.underlying27 (by kernel_rfl) ⟨rfl, by kernel_rfl, Tryz.underlying3⟩ ⟨rfl, by kernel_rfl, Tryz.underlying25⟩ ⟨Tryz.underlying3, by kernel_rfl⟩ hl hx) (s0.trans (by kernel_rfl)) hf
  clear hA0 hval0
  refine (Calls.ofRet (FnExactWorldCalm_c (K.start W) w0)).mono fun e W' ⟨he, bel⟩ => ?_
  subst he
  exact ⟨_, rfl, _, _, _, [], _, [], hW', trodAll_mk1 (shut_bool Tryz.underlying4 _), (trodAll_cons_mk (Below.trod laidOut (by kernel_rfl) (of_decide_eq_true (by kernel_rfl)) k0 bel lt0) trodAll_mk0), rfl, bel.frame _, fun h => by cases h⟩

theorem and_t {a b : Bool} (x : a = true) (y : b = true) : (a && b) = true := by rw [x, y]; rfl
set_option maxHeartbeats 100000000 in
theorem closed : joinedFacts Tryz.pinned.checked.prog 3 Tryz.f3 Rows.fnExactWorldCalmSpec Rows.fnExactWorldCalmRow = true := by
  unfold joinedFacts
  repeat' (with_reducible refine and_t ?_ ?_)
  all_goals (as_aux_lemma => kernel_rfl)

theorem wrap : Tryz.f3.isWrapper Tryz.pinned.checked.prog Rows.fnExactWorldCalmRow.wrapper Rows.fnExactWorldCalmRow.mainSum := by unfold Func.isWrapper; first | (rw [if_pos (by decide +kernel)]; kernel_rfl) | (rw [if_neg (by decide +kernel)]; exact ⟨rfl, rfl⟩)

theorem over : Rows.fnExactWorldCalmRow.holds Tryz.pinned (OpenSpec.ofChange Rows.fnExactWorldCalmSpec) :=
  OpenClaim.holds_of_wide 3 Tryz.f3 rfl rfl rfl rfl rfl rfl rfl ⟨rfl, rfl, rfl, rfl, rfl⟩ rfl rfl rfl rfl rfl (by as_aux_lemma => kernel_rfl) Tryz.func3 closed
    (of_decide_eq_true (by as_aux_lemma => kernel_rfl)) wrap
    (fun os started H enc _ => lifted os started H enc)
end Go.Proofs.YtmgggljicpmndaaGreat.fnExactWorldCalm
namespace Go.Proofs.YtmgggljicpmndaaGreat
theorem FnExactWorldCalm_holds : Rows.FnExactWorldCalmSaid := fnExactWorldCalm.over
#print axioms FnExactWorldCalm_holds
end Go.Proofs.YtmgggljicpmndaaGreat
