/- Reading worlds: from the given statement's reading to plain lists. Conditions: those that each row states. -/
import Derived.Test.YtjfjnmbgimfmaaaRs
import Derived.Test.YtjfjnmbgimfmaaaRgS
import Derived.Test.YtjfjnmbgimfmaaaWdM
namespace Go.Ro
open Go Go.ChangeShapes Go.WideShapes Go.RowKit
section
variable {H : Type} {enc : TypeId × Value → H} {P : Program} {w : World} {base : Nat} {held : Bool}
variable {t : TypeId} {fs : Array Field} {f : Field} {fuel i o k : Nat} {cs : List Value} {x : DataW H × List MemPlace}

theorem read_fieldN {spare : Nat → Bool} (ht : P.underlying t = some (.struct fs)) (hi : fs[i]? = some f) (ho : f.offset = o) (hc : P.cellsOf f.type = k) (hcl : o + k ≤ P.cellsOf t)
    (h : DataW.trod enc P w base spare held fuel t cs = some x) : ∃ m y, ((cs.drop o).take k).length = k ∧ DataW.trod enc P w base spare held m f.type ((cs.drop o).take k) = some y := by
  obtain ⟨xs, n, _, _, hcs, hl, hx⟩ := DataW.trod_struct ht h
  have h1 := hx i f hi
  have hlt : i < fs.size := by
    rcases Nat.lt_or_ge i fs.size with h | h
    · exact h
    · rw [Array.getElem?_eq_none h] at hi; cases hi
  rw [List.getElem?_eq_getElem (by omega), ho, hc] at h1
  exact ⟨n, _, by rw [List.length_take, List.length_drop]; omega, h1⟩
/-- the field is a slice -/
theorem read_fsl {α : Type} {E : View → List Value → α → Prop} {e : TypeId} {sz : Nat} (ht : P.underlying t = some (.struct fs)) (hi : fs[i]? = some f) (ho : f.offset = o) (hc1 : P.cellsOf f.type = 1) (hcl : o < P.cellsOf t)
    (hk : P.underlying f.type = some (.slice e)) (hc : P.cellsOf e = sz) (hsz : 1 ≤ sz)
    (hel : ∀ fuel cs x, cs.length = sz → DataW.trod enc P w base (fun _ => true) held fuel e cs = some x → ∃ y, E (hvw w) cs y)
    (h : DataW.trod enc P w base (fun _ => true) held fuel t cs = some x) : ∃ v ys, cs[o]? = some v ∧ SlR sz E (hvw w) v ys := by
  obtain ⟨m, v, y, h1, h2⟩ := read_field ht hi ho hc1 hcl h
  obtain ⟨ys, h3⟩ := read_sl hk hc hsz hel h2
  exact ⟨v, ys, h1, h3⟩
/-- a structure of two numbers and a slice of numbers -/
theorem read_nd {e : TypeId} {f0 f1 f2 : Field} (ht : P.underlying t = some (.struct #[f0, f1, f2])) (hc : P.cellsOf t = 3)
    (h0 : f0.offset = 0 ∧ P.cellsOf f0.type = 1 ∧ P.underlying f0.type = some (.int .i64)) (h1 : f1.offset = 1 ∧ P.cellsOf f1.type = 1 ∧ P.underlying f1.type = some (.int .i64))
    (h2 : f2.offset = 2 ∧ P.cellsOf f2.type = 1 ∧ P.underlying f2.type = some (.slice e)) (he : P.underlying e = some (.int .i64) ∧ P.cellsOf e = 1) (hl : cs.length = 3)
    (h : DataW.trod enc P w base (fun _ => true) held fuel t cs = some x) : ∃ y : Rn, EF rc (hvw w) cs y ∧ IntS (hvw w) y.2.2.1 y.2.2.2 := by
  obtain ⟨a, ha⟩ := read_int (i := 0) ht rfl h0.1 h0.2.1 (by omega) h0.2.2 h
  obtain ⟨b, hb⟩ := read_int (i := 1) ht rfl h1.1 h1.2.1 (by omega) h1.2.2 h
  obtain ⟨v, zs, hcc, hz⟩ := read_fints (i := 2) ht rfl h2.1 h2.2.1 (by omega) h2.2.2 he.1 he.2 h
  refine ⟨(a, b, v, zs), ?_, hz⟩
  match cs, hl with
  | [p, q, r], _ => simp at ha hb hcc; subst ha; subst hb; subst hcc; rfl
theorem read_it {spare : Nat → Bool} {f0 f1 : Field} (ht : P.underlying t = some (.struct #[f0, f1])) (hc : P.cellsOf t = 2)
    (h0 : f0.offset = 0 ∧ P.cellsOf f0.type = 1 ∧ P.underlying f0.type = some (.int .i64)) (h1 : f1.offset = 1 ∧ P.cellsOf f1.type = 1 ∧ P.underlying f1.type = some (.int .i64)) (hl : cs.length = 2)
    (h : DataW.trod enc P w base spare held fuel t cs = some x) {G : View} : ∃ y : It, EF ic G cs y := by
  obtain ⟨a, ha⟩ := read_int (i := 0) ht rfl h0.1 h0.2.1 (by omega) h0.2.2 h
  obtain ⟨b, hb⟩ := read_int (i := 1) ht rfl h1.1 h1.2.1 (by omega) h1.2.2 h
  refine ⟨(a, b), ?_⟩
  match cs, hl with
  | [p, q], _ => simp at ha hb; subst ha; subst hb; rfl
theorem read_scanL {e : TypeId} {f0 f1 : Field} (ht : P.underlying t = some (.struct #[f0, f1])) (hc : P.cellsOf t = 2)
    (h0 : f0.offset = 0 ∧ P.cellsOf f0.type = 1 ∧ P.underlying f0.type = some (.int .i64))
    (h1 : f1.offset = 1 ∧ P.cellsOf f1.type = 1 ∧ P.underlying f1.type = some (.slice e)) (he : P.underlying e = some (.int .i64) ∧ P.cellsOf e = 1) (hs : cs.length = 2)
    (h : DataW.trod enc P w base (fun _ => true) held fuel t cs = some x) : ∃ n v zs, cs = [.int .i64 n, v] ∧ IntS (hvw w) v zs := by
  obtain ⟨n, v, zs, h1, h2⟩ := read_scan (cs := cs.toArray) ht hc h0 h1 he (by simpa using hs) (by simpa using h)
  exact ⟨n, v, zs, by simpa using congrArg Array.toList h1, h2⟩
/-- nodes -/
theorem rng_of {G : View} {v : Value} {rs : List Rn} (h : SlR 3 (fun G cs (y : Rn) => EF rc G cs y ∧ IntS G y.2.2.1 y.2.2.2) G v rs) : RngS G v rs :=
  ⟨⟨h.1, fun i x hx => by obtain ⟨cs, a, b, c, _⟩ := h.2 i x hx; exact ⟨cs, a, b, c⟩⟩, fun x hx => by
    obtain ⟨i, hi⟩ := List.getElem?_of_mem hx
    obtain ⟨cs, _, _, _, d⟩ := h.2 i x hi; exact d⟩
/-- a world -/
theorem read_world {lc : Ls → List Value} {f0 f1 f2 f3 f4 f5 : Field} (ht : P.underlying t = some (.struct #[f0, f1, f2, f3, f4, f5])) (hc : P.cellsOf t = 7)
    (ho : f0.offset = 0 ∧ f1.offset = 1 ∧ f2.offset = 2 ∧ f3.offset = 3 ∧ f4.offset = 4 ∧ f5.offset = 6)
    (hs : P.cellsOf f0.type = 1 ∧ P.cellsOf f1.type = 1 ∧ P.cellsOf f2.type = 1 ∧ P.cellsOf f3.type = 1 ∧ P.cellsOf f4.type = 2 ∧ P.cellsOf f5.type = 1)
    (h0 : P.underlying f0.type = some (.int .i64)) {e1 e2 e3 e5 : TypeId} (h1 : P.underlying f1.type = some (.slice e1)) (h2 : P.underlying f2.type = some (.slice e2)) (h3 : P.underlying f3.type = some (.slice e3))
    (h5 : P.underlying f5.type = some (.slice e5)) (he5 : P.underlying e5 = some (.int .i64) ∧ P.cellsOf e5 = 1) (hcs : P.cellsOf e1 = 3 ∧ P.cellsOf e2 = 3 ∧ P.cellsOf e3 = 2)
    (r1 : ∀ fuel cs x, cs.length = 3 → DataW.trod enc P w base (fun _ => true) held fuel e1 cs = some x → ∃ y : Rn, EF rc (hvw w) cs y ∧ IntS (hvw w) y.2.2.1 y.2.2.2)
    (r2 : ∀ fuel cs x, cs.length = 3 → DataW.trod enc P w base (fun _ => true) held fuel e2 cs = some x → ∃ y : Ls, EF lc (hvw w) cs y)
    (r3 : ∀ fuel cs x, cs.length = 2 → DataW.trod enc P w base (fun _ => true) held fuel e3 cs = some x → ∃ y : It, EF ic (hvw w) cs y)
    (r4 : ∀ fuel cs x, cs.length = 2 → DataW.trod enc P w base (fun _ => true) held fuel f4.type cs = some x → ∃ n v zs, cs = [.int .i64 n, v] ∧ IntS (hvw w) v zs)
    {ca : Array Value} (hz : ca.size = 7) (h : DataW.trod enc P w base (fun _ => true) held fuel t ca.toList = some x) : ∃ W wd rs, ca = (wc W).toArray ∧ WdS (hvw w) lc W wd rs := by
  obtain ⟨o0, o1, o2, o3, o4, o5⟩ := ho
  obtain ⟨s0, s1, s2, s3, s4, s5⟩ := hs
  obtain ⟨now, g0⟩ := read_int (i := 0) ht rfl o0 s0 (by omega) h0 h
  obtain ⟨vr, rs, g1, k1⟩ := read_fsl (i := 1) (E := fun G cs (y : Rn) => EF rc G cs y ∧ IntS G y.2.2.1 y.2.2.2) ht rfl o1 s1 (by omega) h1 hcs.1 (by omega) r1 h
  obtain ⟨vl, ls, g2, k2⟩ := read_fsl (i := 2) (E := EF lc) ht rfl o2 s2 (by omega) h2 hcs.2.1 (by omega) r2 h
  obtain ⟨vi, zs, g3, k3⟩ := read_fsl (i := 3) (E := EF ic) ht rfl o3 s3 (by omega) h3 hcs.2.2 (by omega) r3 h
  obtain ⟨m, y, g4, k4⟩ := read_fieldN (i := 4) (k := 2) ht rfl o4 s4 (by omega) h
  obtain ⟨nx, vt, ts, e4, k4⟩ := r4 _ _ _ g4 k4
  obtain ⟨vs, ss, g5, k5⟩ := read_fints (i := 5) ht rfl o5 s5 (by omega) h5 he5.1 he5.2 h
  refine ⟨⟨now, vr, vl, vi, nx, vt, vs⟩, ⟨now, rgl rs, ls, zs, (nx, ts), ss⟩, rs, ?_, ⟨rfl, rng_of k1, rfl, k2, k3, rfl, k4, k5⟩⟩
  obtain ⟨l⟩ := ca
  match l, hz with
  | [p0, p1, p2, p3, p4, p5, p6], _ =>
    simp at g0 g1 g2 g3 e4 g5
    subst g0; subst g1; subst g2; subst g3; subst g5
    obtain ⟨rfl, rfl⟩ := e4
    rfl
end
end Go.Ro
