/-
  The statement Rows.FnExactWorldDoSaid is proved: for every input the law FnExactWorldDo returns true, and its arguments read as before.
  Conditions: none.
-/
import Derived.Test.YtmgggljicpmndaaGreatDoorTie
import Derived.Test.YtmgggljicpmndaaGreatDoorCards
import Derived.SevenTiedAt
import Derived.Test.YtmgggljicpmndaaGreatDoorRows
import Derived.WalkKit
import Derived.ProofKit
import Derived.OpenShut
import Derived.StringKeys
import Derived.Test.YtmgggljicpmndaaGreatDoorWdN
import Derived.Test.YtmgggljicpmndaaGreatDoorXy1
import Derived.Test.YtmgggljicpmndaaGreatDoorLd
namespace Go.Proofs.YtmgggljicpmndaaGreatDoor.fnExactWorldDo
open Go.ChangeShapes Go.WideShapes Go.ChangeAt Go.RowKit Go.Ro
set_option linter.unusedVariables false

theorem own : ownKnob Tryz.prog.godebug = none := by kernel_rfl
theorem laidOut : laidOutB Tryz.prog = true := by kernel_rfl

set_option maxRecDepth 100000 in
theorem lifted (os : Os) (started : os.Started) (H : Type) (enc : TypeId × Value → H) :
    ReturnsInHanded {} Tryz.checked os 4 .any (fun w args => (Rows.fnExactWorldDoSpec.pre enc Tryz.prog Tryz.f4 Rows.fnExactWorldDoRow.domain false w args ∧ laidMet Tryz.prog ldL w) ∧ sizedMet enc Tryz.prog Tryz.f4 (OpenSpec.ofChange Rows.fnExactWorldDoSpec) false w args) (Rows.fnExactWorldDoSpec.post enc Tryz.prog Tryz.f4 false true false false) := by
  refine returnsInHanded_of_change_and (C := Tryz.checked) (X := fun w _ => laidMet Tryz.prog ldL w) (fun _ _ _ hh h => h.of_heap hh) own started (by kernel_rfl) Tryz.func4
    (ChangeSpec.witness_at (enc := enc) (C := Tryz.checked) (os := os) (X := fun w _ => laidMet Tryz.prog ldL w) false (ldW os) #[.agg #[.int .i64 0, .slice none 0 0, .slice none 0 0, .slice none 0 0, .int .i64 0, .slice none 0 0, .slice none 0 0], .agg #[.int .i64 0, .int .i64 0, .int .i64 0, .int .i64 0]] 8 rfl (by kernel_rfl) (by kernel_rfl) (by kernel_rfl) (by kernel_rfl) (by kernel_rfl) (ldW_met os _)) ?_
  intro W base args ds gs before hval0 hW _ _ hL _
  have hval : ∀ (j : Nat) t v, Tryz.f4.params[j]? = some t → args[j]? = some v → Value.okWide Tryz.prog W .any base t v := hval0
  have hW' := hW
  obtain ⟨p, q, hA0, hV, rfl, hfz, hnd⟩ := hW
  have hA : DataW.TrodAll enc Tryz.prog W 0 (fun _ => true) true Tryz.f4.params.toList args.toList ds p := hA0
  rw [Tryz.params4] at hA hval
  obtain ⟨v0, vs0, d0, ds0, p0, q0, hargs, rfl, rfl, h0, r0⟩ := trodAll_cons hA
  obtain ⟨v1, vs1, d1, ds1, p1, q1, rfl, rfl, rfl, h1, r1⟩ := trodAll_cons r0
  obtain ⟨rfl, rfl, rfl⟩ := trodAll_nil r1
  obtain rfl : args = #[v0, v1] := by cases args; simp_all
  obtain ⟨ea0, ea1, hva0, hva1, hE⟩ := ld_of hL
  have hV' : DataW.TrodVars enc Tryz.prog W (fun _ => true) ["loop.example/ringoverlay/impl.errArgs", "loop.example/ringoverlay/impl.errRefused"] gs q := hV
  obtain ⟨rfl, rfl⟩ := hV'.unique (ld_read enc hva0 hva1 trivial trivial _)
  obtain ⟨c0, rfl, s0⟩ := okWide_struct Tryz.underlying49 (hval 0 49 v0 rfl rfl)
  have k0 := h0
  have lt0 : ∀ x ∈ p0, x.block < W.heap.size := by obtain ⟨m, hm⟩ := k0; exact DataW.trod_lt m _ _ _ hm
  obtain ⟨X0, wd0, rs0, rfl, w0⟩ : ∃ X wd rs, c0 = (wc X).toArray ∧ WdS (hvw W) lc X wd rs := by
    obtain ⟨fuel, hf⟩ := h0
    exact read_world Tryz.underlying49 (by kernel_rfl) ⟨rfl, rfl, rfl, rfl, rfl, rfl⟩ ⟨by kernel_rfl, by kernel_rfl, by kernel_rfl, by kernel_rfl, by kernel_rfl, by kernel_rfl⟩ Tryz.underlying3 Tryz.underlying44 Tryz.underlying45 Tryz.underlying46 Tryz.underlying22 ⟨Tryz.underlying3, by kernel_rfl⟩ ⟨by kernel_rfl, by kernel_rfl, by kernel_rfl⟩
      (fun fuel cs x hl hx => read_nd Tryz.underlying106 (by kernel_rfl) ⟨rfl, by kernel_rfl, Tryz.underlying3⟩ ⟨rfl, by kernel_rfl, Tryz.underlying3⟩ ⟨rfl, by kernel_rfl, Tryz.underlying22⟩ ⟨Tryz.underlying3, by kernel_rfl⟩ hl hx)
      (fun fuel cs x hl hx => read_lc (lc := lc) (fun _ _ _ => rfl) Tryz.underlying116 (by kernel_rfl) ⟨rfl, by kernel_rfl, Tryz.underlying3⟩ ⟨rfl, by kernel_rfl, Tryz.underlying3⟩ ⟨rfl, by kernel_rfl, Tryz.underlying3⟩ hl hx)
      (fun fuel cs x hl hx => read_it Tryz.underlying118 (by kernel_rfl) ⟨rfl, by kernel_rfl, Tryz.underlying3⟩ ⟨rfl, by kernel_rfl, Tryz.underlying3⟩ hl hx)
      (fun fuel cs x hl hx => read_scanL Tryz.underlying47 (by kernel_rfl) ⟨rfl, by kernel_rfl, Tryz.underlying3⟩ ⟨rfl, by kernel_rfl, Tryz.underlying22⟩ ⟨Tryz.underlying3, by kernel_rfl⟩ hl hx) (s0.trans (by kernel_rfl)) hf
  obtain ⟨c1, rfl, s1⟩ := okWide_struct Tryz.underlying51 (hval 1 51 v1 rfl rfl)
  have k1 := h1
  have lt1 : ∀ x ∈ p1, x.block < W.heap.size := by obtain ⟨m, hm⟩ := k1; exact DataW.trod_lt m _ _ _ hm
  obtain ⟨ek1, ea1, eb1, ec1, rfl⟩ : ∃ a b c d, c1 = #[.int .i64 a, .int .i64 b, .int .i64 c, .int .i64 d] := by
    obtain ⟨fuel, hf⟩ := h1
    obtain ⟨a, b, c, d, he⟩ := read_ev (cs := c1.toList) Tryz.underlying51 (by kernel_rfl) ⟨rfl, by kernel_rfl, Tryz.underlying3⟩ ⟨rfl, by kernel_rfl, Tryz.underlying3⟩ ⟨rfl, by kernel_rfl, Tryz.underlying3⟩ ⟨rfl, by kernel_rfl, Tryz.underlying3⟩ (by rw [Array.length_toList]; exact s1.trans (by kernel_rfl)) (by simpa [Value.cells] using hf)
    exact ⟨a, b, c, d, by rw [← he]⟩
  clear hA0 hval0
  refine (Calls.ofRet (FnExactWorldDo_c (K.start W) hE w0 (kd := ek1) (a := ea1) (b := eb1) (c := ec1))).mono fun e W' ⟨he, bel⟩ => ?_
  subst he
  exact ⟨_, rfl, _, _, _, [], _, [.cell 0 0, .cell 1 0], hW', trodAll_mk1 (shut_bool Tryz.underlying4 _), (trodAll_cons_mk (Below.trod laidOut (by kernel_rfl) (of_decide_eq_true (by kernel_rfl)) k0 bel lt0) (trodAll_cons_mk (Below.trod laidOut (by kernel_rfl) (of_decide_eq_true (by kernel_rfl)) k1 bel lt1) trodAll_mk0)), ld_read enc (ld_var hva0 bel) (ld_var hva1 bel) trivial trivial _, bel.frame _, fun h => by cases h⟩

theorem and_t {a b : Bool} (x : a = true) (y : b = true) : (a && b) = true := by rw [x, y]; rfl
set_option maxHeartbeats 100000000 in
theorem closed : joinedFacts Tryz.pinned.checked.prog 4 Tryz.f4 Rows.fnExactWorldDoSpec Rows.fnExactWorldDoRow = true := by
  unfold joinedFacts
  repeat' (with_reducible refine and_t ?_ ?_)
  all_goals (as_aux_lemma => kernel_rfl)

theorem wrap : Tryz.f4.isWrapper Tryz.pinned.checked.prog Rows.fnExactWorldDoRow.wrapper Rows.fnExactWorldDoRow.mainSum := by unfold Func.isWrapper; first | (rw [if_pos (by decide +kernel)]; kernel_rfl) | (rw [if_neg (by decide +kernel)]; exact ⟨rfl, rfl⟩)

theorem over : Rows.fnExactWorldDoRow.holds Tryz.pinned (OpenSpec.ofChange Rows.fnExactWorldDoSpec) :=
  OpenClaim.holds_of_wide 4 Tryz.f4 rfl rfl rfl rfl rfl rfl rfl ⟨rfl, rfl, rfl, rfl, rfl⟩ rfl rfl rfl rfl rfl (by as_aux_lemma => kernel_rfl) Tryz.func4 closed
    (of_decide_eq_true (by as_aux_lemma => kernel_rfl)) wrap
    (fun os started H enc _ => lifted os started H enc)
end Go.Proofs.YtmgggljicpmndaaGreatDoor.fnExactWorldDo
namespace Go.Proofs.YtmgggljicpmndaaGreatDoor
theorem FnExactWorldDo_row : Rows.FnExactWorldDoSaid := fnExactWorldDo.over
theorem FnExactWorldDo_holds : Rows.FnExactWorldDoCardSaid :=
  Claim7.holds_tied_plain_at .later [] [.sentinel, .sentinel] true (true, "6a6b7e96d3c1afad57e66f4dfc3290798d9f2921e20988f55221729a9469e6f2") true
    FnExactWorldDo_row (fun _ h => by cases h) (by as_aux_lemma => kernel_rfl) (fun _ h => by cases h) fnExactWorldDo_row_tie rfl ⟨rfl, rfl⟩ (by as_aux_lemma => kernel_rfl) rfl
    (fun f fn hf hfn => by
      obtain rfl : f = 4 := Option.some.inj ((show Tryz.prog.funcNamed "loop.example/ringoverlay/laws.FnExactWorldDo" = some 4 from (by as_aux_lemma => kernel_rfl)).symm.trans hf) |>.symm
      obtain rfl : fn = Tryz.f4 := (Option.some.inj (Tryz.func4.symm.trans hfn)).symm
      exact ⟨by as_aux_lemma => kernel_rfl, fun j t ht => by
        rw [Tryz.params4] at ht
        have hm : t ∈ [49, 51] := by simpa using Array.mem_of_getElem? ht
        have hall : ([49, 51].all fun u => !Tryz.prog.wantsStandIn u) = true := by as_aux_lemma => kernel_rfl
        exact (show Tryz.prog.wantsStandIn t = false by simpa using List.all_eq_true.1 hall t hm)⟩)
    (by as_aux_lemma => kernel_rfl)
#print axioms FnExactWorldDo_holds
end Go.Proofs.YtmgggljicpmndaaGreatDoor
