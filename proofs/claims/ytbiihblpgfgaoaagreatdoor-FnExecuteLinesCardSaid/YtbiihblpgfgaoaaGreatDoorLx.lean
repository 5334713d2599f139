/- The variables that the laws on scripts list, laid as the rows say. Conditions: those that each row states. -/
import Derived.Test.YtbiihblpgfgaoaaGreatDoorXh
import Derived.Test.YtbiihblpgfgaoaaGreatDoorEr
import Derived.Test.YtbiihblpgfgaoaaGreatDoorPlM
import Derived.Test.YtbiihblpgfgaoaaGreatDoorRows
import Derived.ChangeSame
import Derived.ChangeVars
import Derived.JoinedOf
import Derived.RowKit
import Derived.RowKitTokens
import Derived.LaidLaws
import Derived.Lib.LaidTab
import Derived.Stop.LaidErr
import Derived.Stop.ErrReads
import Derived.Below
import Derived.KernelRfl
namespace Go.Proofs.YtbiihblpgfgaoaaGreatDoor
open Go Go.ChangeShapes Go.WideShapes Go.RowKit Go.Ro
def ldL : List (String × DataW Unit) := Rows.fnExecuteLinesRow.laid
def ld3 : List (String × DataW Unit) := [("loop.example/ringoverlay/impl.errArgs", .iface "*errors.errorString" (.ptr (.agg [.lit (.string [97, 114, 103, 117, 109, 101, 110, 116, 115])]))), ("loop.example/ringoverlay/impl.errRefused", .iface "*errors.errorString" (.ptr (.agg [.lit (.string [114, 101, 102, 117, 115, 101, 100])]))), ("unicode/utf8.first", Rows.laid_unicode_utf8_first)]
theorem ld_g0 : Tryz.prog.globalNamed "loop.example/ringoverlay/impl.errArgs" = some 6 := by kernel_rfl
theorem ld_g1 : Tryz.prog.globalNamed "loop.example/ringoverlay/impl.errRefused" = some 7 := by kernel_rfl
theorem ld_gp : Tryz.prog.globalNamed "internal/strconv.uint64pow10" = some 1 := by kernel_rfl
theorem ld_t0 : (Tryz.prog.globals[6]?).map (·.type) = some 69 := by kernel_rfl
theorem ld_t1 : (Tryz.prog.globals[7]?).map (·.type) = some 69 := by kernel_rfl
theorem ld_tp : (Tryz.prog.globals[1]?).map (·.type) = some 152 := by kernel_rfl
theorem ld_cE : Tryz.prog.cellsOf 276 = 1 := by kernel_rfl
theorem ld_cS : Tryz.prog.cellsOf 9 = 1 := by kernel_rfl
theorem ld_cU : Tryz.prog.cellsOf 115 = 1 := by kernel_rfl
theorem ld_cP : Tryz.prog.cellsOf 152 = 20 := by kernel_rfl
theorem ld_star : "*" ++ "errors.errorString" = "*errors.errorString" := by decide
theorem ld_row (u : TypeId) (h : Tryz.prog.typeName? 3 u = some "*errors.errorString") : u = 253 :=
 typeName_ptr_named (nm := "errors.errorString") (by rw [ld_star]; kernel_rfl) kr (by decide) u (by rw [ld_star]; exact h)
theorem ld_tail {W : World} (h : laidMet Tryz.prog ldL W) : Tab (hvw W) ∧ laidMet Tryz.prog ld3 W := by
 have h3 := laidMet.tail (laidMet.tail h)
 have ht := Lib.tabIs_of_head (k := .u64) (zs := Lib.pow10Tab) ld_gp ld_tp Tryz.underlying152 Tryz.underlying115 ld_cU ld_cP h3
 refine ⟨?_, laidMet.tail (laidMet.tail h3)⟩
 unfold Lib.TabIs World.var? at ht
 rw [ld_gp] at ht
 simp only [Option.bind_some] at ht
 have hlt : 1 < W.heap.size := by
  rcases Nat.lt_or_ge 1 W.heap.size with h' | h'
  ·exact h'
  ·simp [Array.getElem?_eq_none h'] at ht
 refine ⟨W.heap[1], by unfold hvw; exact Array.getElem?_eq_getElem hlt, fun w hw => ?_⟩
 unfold Lib.TabIs World.var?
 rw [ld_gp]
 simp only [Option.bind_some, hw]
 rw [Array.getElem?_eq_getElem hlt] at ht
 exact ht
set_option maxRecDepth 100000 in
theorem ld_of {W : World} (h : laidMet Tryz.prog ldL W) :
  ∃ (a0 a1 : Addr), W.var? Tryz.prog "loop.example/ringoverlay/impl.errArgs" = some #[.iface 253 (.pointer (some a0))] ∧ W.var? Tryz.prog "loop.example/ringoverlay/impl.errRefused" = some #[.iface 253 (.pointer (some a1))] ∧ (ErrS 253 6 7 (hvw W) a0 a1 ∧ Tab (hvw W)) := by
 obtain ⟨hT, h⟩ := ld_tail h
 obtain ⟨ps, ⟨g0, t0, cs0, f0, p0, q0, hg0, ht0, hv0, hd0, ⟨g1, t1, cs1, f1, p1, q1, hg1, ht1, hv1, hd1, _, e1⟩, e0⟩, hnd, hrows⟩ := h
 obtain rfl := Option.some.inj (ld_g0.symm.trans hg0)
 obtain rfl := Option.some.inj (ld_g1.symm.trans hg1)
 obtain rfl := Option.some.inj (ld_t0.symm.trans ht0)
 obtain rfl := Option.some.inj (ld_t1.symm.trans ht1)
 subst e1
 subst e0
 obtain ⟨l0⟩ := cs0
 obtain ⟨l1⟩ := cs1
 have ok0 : ∀ u v, l0 = [.iface u v] → Value.okWide Tryz.prog W .any 0 u v := fun u v e => by
  subst e
  exact (hrows 6 0 (by simp [MemPlace.row])).2 u v (by simpa using World.var?_cell hg0 hv0 0)
 have ok1 : ∀ u v, l1 = [.iface u v] → Value.okWide Tryz.prog W .any 0 u v := fun u v e => by
  subst e
  exact (hrows 7 0 (by simp [MemPlace.row])).2 u v (by simpa using World.var?_cell hg1 hv1 0)
 obtain ⟨a0, s0, rfl, hc0, hs0, hz0, rfl⟩ := errorString_of_trod Tryz.underlying69 ld_row Tryz.underlying253 Tryz.underlying276 rfl rfl Tryz.underlying9 ld_cE ld_cS hd0 ok0
 obtain ⟨a1, s1, rfl, hc1, hs1, hz1, rfl⟩ := errorString_of_trod Tryz.underlying69 ld_row Tryz.underlying253 Tryz.underlying276 rfl rfl Tryz.underlying9 ld_cE ld_cS hd1 ok1
 obtain ⟨c0, t0, hb0⟩ := (hrows a0.block a0.off (by simp [MemPlace.row])).1
 obtain ⟨c1, t1, hb1⟩ := (hrows a1.block a1.off (by simp [MemPlace.row])).1
 have k0 : W.cell? ⟨6, 0, none⟩ = some (.iface 253 (.pointer (some a0))) := by simpa using World.var?_cell ld_g0 hv0 0
 have k1 : W.cell? ⟨7, 0, none⟩ = some (.iface 253 (.pointer (some a1))) := by simpa using World.var?_cell ld_g1 hv1 0
 have kc : ∀ (b : Nat) (v : Value), W.cell? ⟨b, 0, none⟩ = some v → cellV (hvw W) ⟨b, 0, none⟩ = some v := by
  intro b v hb
  unfold World.cell? at hb
  unfold cellV hvw
  exact hb
 refine ⟨a0, a1, hv0, hv1, ⟨kc 6 _ k0, kc 7 _ k1, ?_, ⟨c0, t0, hb0⟩, ⟨c1, t1, hb1⟩⟩, hT⟩
 rintro rfl
 simp [MemPlace.row] at hnd
theorem ld_var {W W' : World} {x : Array Value} {s : String} (h : W.var? Tryz.prog s = some x) (hb : Below W.heap.size W W') : W'.var? Tryz.prog s = some x := by
 unfold World.var? at h ⊢
 cases hg : Tryz.prog.globalNamed s with
 | none => simp [hg] at h
 | some g =>
  simp only [hg, Option.bind_some] at h ⊢
  have hlt : g < W.heap.size := by
   rcases Nat.lt_or_ge g W.heap.size with h' | h'
   ·exact h'
   ·simp [Array.getElem?_eq_none h'] at h
  rw [hb.block g hlt]; exact h
set_option maxRecDepth 100000 in
theorem ld_read {H : Type} (enc : TypeId × Value → H) {W : World} {x0 x1 : Value} (h0 : W.var? Tryz.prog "loop.example/ringoverlay/impl.errArgs" = some #[x0]) (h1 : W.var? Tryz.prog "loop.example/ringoverlay/impl.errRefused" = some #[x1]) (i0 : IsIface x0) (i1 : IsIface x1) (sp : Nat → Bool) :
  DataW.TrodVars enc Tryz.prog W sp ["loop.example/ringoverlay/impl.errArgs", "loop.example/ringoverlay/impl.errRefused"] [tok enc x0, tok enc x1] [.cell 6 0, .cell 7 0] :=
 ⟨6, 69, #[x0], 1, [], [.cell 7 0], ld_g0, ld_t0, h0, trod_held Tryz.underlying69 i0 0, ⟨7, 69, #[x1], 1, [], [], ld_g1, ld_t1, h1, trod_held Tryz.underlying69 i1 0, rfl, rfl⟩, rfl⟩
noncomputable def ldLow : Nat := (World.holding Tryz.prog default ⟨#[], #[], []⟩).heap.size
def lit1 : DataW Unit → List Value
 | .lit (.int k z) => [.int k z]
 | _ => []
def agg1 : DataW Unit → List Value
 | .agg xs => xs.flatMap lit1
 | d => lit1 d
def agg2 : DataW Unit → List Value
 | .agg xs => xs.flatMap agg1
 | d => lit1 d
def putO (cs : Array Value) : Obj → Obj
 | .cells _ t frozen => .cells cs t frozen
 | o => o
noncomputable def ldW (os : Os) : World :=
 let w0 := World.holding Tryz.prog os ⟨#[.cells #[.string { data := #[97, 114, 103, 117, 109, 101, 110, 116, 115] }] 276, .cells #[.string { data := #[114, 101, 102, 117, 115, 101, 100] }] 276], #[], []⟩
 { w0 with heap := ((((((w0.heap.modify 6 (putO #[.iface 253 (.pointer (some ⟨ldLow, 0, none⟩))])).modify 7 (putO #[.iface 253 (.pointer (some ⟨ldLow + 1, 0, none⟩))])).modify 1 (putO (agg2 Rows.laid_internal_strconv_uint64pow10).toArray)).modify 2 (putO (agg2 Rows.laid_unicode_utf8_first).toArray)).modify 3 (putO (agg2 Rows.laid_unicode_utf8_acceptRanges).toArray)).modify 4 (putO (agg2 Rows.laid_math_bits_deBruijn32tab).toArray)).modify 5 (putO (agg2 Rows.laid_math_bits_deBruijn64tab).toArray) }
set_option maxRecDepth 100000 in
theorem ldW_met (os : Os) (args : Array Value) : laidMet Tryz.prog ldL ((ldW os).forCall (fun _ _ => 0) ⟨#[], args, []⟩).memory :=
 laidMet_of_run' 8 kr kr
end Go.Proofs.YtbiihblpgfgaoaaGreatDoor
