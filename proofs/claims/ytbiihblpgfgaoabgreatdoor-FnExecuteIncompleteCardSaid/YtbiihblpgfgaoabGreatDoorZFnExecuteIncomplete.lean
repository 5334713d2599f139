/-
  The statement Rows.FnExecuteIncompleteSaid is proved: for every input the law FnExecuteIncomplete returns true, and its arguments read as before.
  Conditions: none.
-/
import Derived.Test.YtbiihblpgfgaoabGreatDoorTie
import Derived.Test.YtbiihblpgfgaoabGreatDoorCards
import Derived.SevenTiedAt
import Derived.Test.YtbiihblpgfgaoabGreatDoorRows
import Derived.WalkKit
import Derived.ProofKit
import Derived.OpenShut
import Derived.StringKeys
import Derived.Test.YtbiihblpgfgaoabGreatDoorSnM
import Derived.Test.YtbiihblpgfgaoabGreatDoorLx
namespace Go.Proofs.YtbiihblpgfgaoabGreatDoor.fnExecuteIncomplete
open Go.ChangeShapes Go.WideShapes Go.ChangeAt Go.RowKit Go.Ro
set_option linter.unusedVariables false

theorem own : ownKnob Tryz.prog.godebug = none := by kernel_rfl
theorem laidOut : laidOutB Tryz.prog = true := by kernel_rfl

set_option maxRecDepth 100000 in
theorem lifted (os : Os) (started : os.Started) (H : Type) (enc : TypeId × Value → H) :
    ReturnsInHanded {} Tryz.checked os 6 .any (fun w args => (Rows.fnExecuteIncompleteSpec.pre enc Tryz.prog Tryz.f6 Rows.fnExecuteIncompleteRow.domain false w args ∧ laidMet Tryz.prog ldL w) ∧ sizedMet enc Tryz.prog Tryz.f6 (OpenSpec.ofChange Rows.fnExecuteIncompleteSpec) false w args) (Rows.fnExecuteIncompleteSpec.post enc Tryz.prog Tryz.f6 false true false false) := by
  refine returnsInHanded_of_change_and (C := Tryz.checked) (X := fun w _ => laidMet Tryz.prog ldL w) (fun _ _ _ hh h => h.of_heap hh) own started (by kernel_rfl) Tryz.func6
    (ChangeSpec.witness_at (enc := enc) (C := Tryz.checked) (os := os) (X := fun w _ => laidMet Tryz.prog ldL w) false (ldW os) #[.slice none 0 0] 8 rfl (by kernel_rfl) (by kernel_rfl) (by kernel_rfl) (by kernel_rfl) (by kernel_rfl) (ldW_met os _)) ?_
  intro W base args ds gs before hval0 hW _ _ hL _
  have hval : ∀ (j : Nat) t v, Tryz.f6.params[j]? = some t → args[j]? = some v → Value.okWide Tryz.prog W .any base t v := hval0
  have hW' := hW
  obtain ⟨p, q, hA0, hV, rfl, hfz, hnd⟩ := hW
  have hA : DataW.TrodAll enc Tryz.prog W 0 (fun _ => true) true Tryz.f6.params.toList args.toList ds p := hA0
  rw [Tryz.params6] at hA hval
  obtain ⟨v0, vs0, d0, ds0, p0, q0, hargs, rfl, rfl, h0, r0⟩ := trodAll_cons hA
  obtain ⟨rfl, rfl, rfl⟩ := trodAll_nil r0
  obtain rfl : args = #[v0] := by cases args; simp_all
  obtain ⟨ea0, ea1, hva0, hva1, hE⟩ := ld_of hL
  have hV' : DataW.TrodVars enc Tryz.prog W (fun _ => true) ["loop.example/ringoverlay/impl.errArgs", "loop.example/ringoverlay/impl.errRefused"] gs q := hV
  obtain ⟨rfl, rfl⟩ := hV'.unique (ld_read enc hva0 hva1 trivial trivial _)
  obtain ⟨a0, len0, cap0, rfl⟩ := okWide_slice Tryz.underlying22 (hval 0 22 v0 rfl rfl)
  have k0 := h0
  have lt0 : ∀ x ∈ p0, x.block < W.heap.size := by obtain ⟨m, hm⟩ := k0; exact DataW.trod_lt m _ _ _ hm
  obtain ⟨z0, w0⟩ : ∃ zs, BytS (hvw W) (.slice a0 len0 cap0) zs := by
    obtain ⟨fuel, hf⟩ := h0
    rcases open_ints Tryz.underlying22 Tryz.underlying5 (by kernel_rfl) hf with ⟨hcs, _⟩ | ⟨x, l, c, zs, hcs, _, hl, hm, hz, _, hcell, hwz⟩
    · simp [Value.cells] at hcs
      obtain ⟨rfl, rfl, rfl⟩ := hcs
      exact ⟨[], BytS.nil⟩
    · simp [Value.cells] at hcs
      obtain ⟨rfl, rfl, rfl⟩ := hcs
      exact ⟨_, BytS.mk (cell_row hl hm (by simpa using hz) hcell) (fun x hx => bytes_wf (hwz x (List.mem_of_mem_take hx)))⟩
  clear hA0 hval0
  refine (Calls.ofRet (FnExecuteIncomplete_c (K.start W) hE.1 hE.2 w0)).mono fun e W' ⟨he, bel⟩ => ?_
  subst he
  exact ⟨_, rfl, _, _, _, [], _, [.cell 6 0, .cell 7 0], hW', trodAll_mk1 (shut_bool Tryz.underlying4 _), (trodAll_cons_mk (Below.trod laidOut (by kernel_rfl) (of_decide_eq_true (by kernel_rfl)) k0 bel lt0) trodAll_mk0), ld_read enc (ld_var hva0 bel) (ld_var hva1 bel) trivial trivial _, bel.frame _, fun h => by cases h⟩

theorem and_t {a b : Bool} (x : a = true) (y : b = true) : (a && b) = true := by rw [x, y]; rfl
set_option maxHeartbeats 100000000 in
theorem closed : joinedFacts Tryz.pinned.checked.prog 6 Tryz.f6 Rows.fnExecuteIncompleteSpec Rows.fnExecuteIncompleteRow = true := by
  unfold joinedFacts
  repeat' (with_reducible refine and_t ?_ ?_)
  all_goals (as_aux_lemma => kernel_rfl)

theorem wrap : Tryz.f6.isWrapper Tryz.pinned.checked.prog Rows.fnExecuteIncompleteRow.wrapper Rows.fnExecuteIncompleteRow.mainSum := by unfold Func.isWrapper; first | (rw [if_pos (by decide +kernel)]; kernel_rfl) | (rw [if_neg (by decide +kernel)]; exact ⟨rfl, rfl⟩)

theorem over : Rows.fnExecuteIncompleteRow.holds Tryz.pinned (OpenSpec.ofChange Rows.fnExecuteIncompleteSpec) :=
  OpenClaim.holds_of_wide 6 Tryz.f6 rfl rfl rfl rfl rfl rfl rfl ⟨rfl, rfl, rfl, rfl, rfl⟩ rfl rfl rfl rfl rfl (by as_aux_lemma => kernel_rfl) Tryz.func6 closed
    (of_decide_eq_true (by as_aux_lemma => kernel_rfl)) wrap
    (fun os started H enc _ => lifted os started H enc)
end Go.Proofs.YtbiihblpgfgaoabGreatDoor.fnExecuteIncomplete
namespace Go.Proofs.YtbiihblpgfgaoabGreatDoor
theorem FnExecuteIncomplete_row : Rows.FnExecuteIncompleteSaid := fnExecuteIncomplete.over
theorem FnExecuteIncomplete_holds : Rows.FnExecuteIncompleteCardSaid :=
  Claim7.holds_tied_plain_at .later [] [.data, .data, .data, .data, .sentinel, .sentinel, .pinned] true (true, "8d4e8d0568de09f7f232be9b5bb8fa5ec065213439620daf9528cb1ebd7becec") true
    FnExecuteIncomplete_row (fun _ h => by cases h) (by as_aux_lemma => kernel_rfl) (fun _ h => by cases h) fnExecuteIncomplete_row_tie rfl ⟨rfl, rfl⟩ (by as_aux_lemma => kernel_rfl) rfl
    (fun f fn hf hfn => by
      obtain rfl : f = 6 := Option.some.inj ((show Tryz.prog.funcNamed "loop.example/ringoverlay/laws.FnExecuteIncomplete" = some 6 from (by as_aux_lemma => kernel_rfl)).symm.trans hf) |>.symm
      obtain rfl : fn = Tryz.f6 := (Option.some.inj (Tryz.func6.symm.trans hfn)).symm
      exact ⟨by as_aux_lemma => kernel_rfl, fun j t ht => by
        rw [Tryz.params6] at ht
        have hm : t ∈ [22] := by simpa using Array.mem_of_getElem? ht
        have hall : ([22].all fun u => !Tryz.prog.wantsStandIn u) = true := by as_aux_lemma => kernel_rfl
        exact (show Tryz.prog.wantsStandIn t = false by simpa using List.all_eq_true.1 hall t hm)⟩)
    (by as_aux_lemma => kernel_rfl)
#print axioms FnExecuteIncomplete_holds
end Go.Proofs.YtbiihblpgfgaoabGreatDoor
