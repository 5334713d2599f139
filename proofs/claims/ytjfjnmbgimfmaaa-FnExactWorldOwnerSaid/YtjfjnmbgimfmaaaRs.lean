/- Reading structures: from the given statement's reading to plain lists. Conditions: those that each row states. -/
import Derived.Test.YtjfjnmbgimfmaaaRd
import Derived.Test.YtjfjnmbgimfmaaaLs
import Derived.Test.YtjfjnmbgimfmaaaSnM
namespace Go.Ro
open Go Go.ChangeShapes Go.WideShapes Go.RowKit
section
variable {H : Type} {enc : TypeId × Value → H} {P : Program} {w : World} {base : Nat} {spare : Nat → Bool} {held : Bool}
variable {t : TypeId} {fs : Array Field} {f : Field} {fuel i o : Nat} {cs : List Value} {x : DataW H × List MemPlace}

theorem read_field (ht : P.underlying t = some (.struct fs)) (hi : fs[i]? = some f) (ho : f.offset = o) (hc : P.cellsOf f.type = 1) (hcl : o < P.cellsOf t)
    (h : DataW.trod enc P w base spare held fuel t cs = some x) : ∃ m v y, cs[o]? = some v ∧ DataW.trod enc P w base spare held m f.type [v] = some y := by
  obtain ⟨xs, n, _, _, hcs, hl, hx⟩ := DataW.trod_struct ht h
  have h1 := hx i f hi
  have hlt : i < fs.size := by
    rcases Nat.lt_or_ge i fs.size with h | h
    · exact h
    · rw [Array.getElem?_eq_none h] at hi; cases hi
  rw [List.getElem?_eq_getElem (by omega), ho, hc] at h1
  cases hd : cs.drop o with
  | nil =>
    exfalso
    have := congrArg List.length hd
    simp at this
    omega
  | cons v r =>
    rw [hd] at h1
    refine ⟨n, v, _, ?_, h1⟩
    have := congrArg (fun l => l[0]?) hd
    simpa using this
theorem read_int (ht : P.underlying t = some (.struct fs)) (hi : fs[i]? = some f) (ho : f.offset = o) (hc : P.cellsOf f.type = 1) (hcl : o < P.cellsOf t) (hk : P.underlying f.type = some (.int .i64))
    (h : DataW.trod enc P w base spare held fuel t cs = some x) : ∃ n, cs[o]? = some (.int .i64 n) := by
  obtain ⟨m, v, y, h1, h2⟩ := read_field ht hi ho hc hcl h
  obtain ⟨n, h3, _⟩ := DataW.trod_int hk h2
  obtain rfl : v = .int .i64 n := by simpa using h3
  exact ⟨n, h1⟩
theorem read_fints {e : TypeId} (ht : P.underlying t = some (.struct fs)) (hi : fs[i]? = some f) (ho : f.offset = o) (hc : P.cellsOf f.type = 1) (hcl : o < P.cellsOf t)
    (hk : P.underlying f.type = some (.slice e)) (he : P.underlying e = some (.int .i64)) (hce : P.cellsOf e = 1)
    (h : DataW.trod enc P w base (fun _ => true) held fuel t cs = some x) : ∃ v zs, cs[o]? = some v ∧ IntS (hvw w) v zs := by
  obtain ⟨m, v, y, h1, h2⟩ := read_field ht hi ho hc hcl h
  obtain ⟨zs, h3⟩ := read_ints hk he hce h2
  exact ⟨v, zs, h1, h3⟩
/-- a structure of three numbers -/
theorem read_lc {lc : Ls → List Value} (hlc : ∀ a b d, lc (a, b, d) = [.int .i64 a, .int .i64 b, .int .i64 d]) {f0 f1 f2 : Field} (ht : P.underlying t = some (.struct #[f0, f1, f2])) (hc : P.cellsOf t = 3)
    (h0 : f0.offset = 0 ∧ P.cellsOf f0.type = 1 ∧ P.underlying f0.type = some (.int .i64)) (h1 : f1.offset = 1 ∧ P.cellsOf f1.type = 1 ∧ P.underlying f1.type = some (.int .i64))
    (h2 : f2.offset = 2 ∧ P.cellsOf f2.type = 1 ∧ P.underlying f2.type = some (.int .i64)) (hl : cs.length = 3)
    (h : DataW.trod enc P w base spare held fuel t cs = some x) {G : View} : ∃ y : Ls, EF lc G cs y := by
  obtain ⟨a, ha⟩ := read_int (i := 0) ht rfl h0.1 h0.2.1 (by omega) h0.2.2 h
  obtain ⟨b, hb⟩ := read_int (i := 1) ht rfl h1.1 h1.2.1 (by omega) h1.2.2 h
  obtain ⟨c, hcc⟩ := read_int (i := 2) ht rfl h2.1 h2.2.1 (by omega) h2.2.2 h
  refine ⟨(a, b, c), ?_⟩
  match cs, hl with
  | [u, v, w], _ => simp at ha hb hcc; subst ha; subst hb; subst hcc; exact (hlc _ _ _).symm
/-- a structure of a number and a slice of numbers -/
theorem read_scan {e : TypeId} {f0 f1 : Field} (ht : P.underlying t = some (.struct #[f0, f1])) (hc : P.cellsOf t = 2)
    (h0 : f0.offset = 0 ∧ P.cellsOf f0.type = 1 ∧ P.underlying f0.type = some (.int .i64))
    (h1 : f1.offset = 1 ∧ P.cellsOf f1.type = 1 ∧ P.underlying f1.type = some (.slice e)) (he : P.underlying e = some (.int .i64) ∧ P.cellsOf e = 1) {cs : Array Value} (hs : cs.size = 2)
    (h : DataW.trod enc P w base (fun _ => true) held fuel t cs.toList = some x) : ∃ n v zs, cs = #[.int .i64 n, v] ∧ IntS (hvw w) v zs := by
  obtain ⟨a, ha⟩ := read_int (i := 0) ht rfl h0.1 h0.2.1 (by omega) h0.2.2 h
  obtain ⟨v, zs, hb, hz⟩ := read_fints (i := 1) ht rfl h1.1 h1.2.1 (by omega) h1.2.2 he.1 he.2 h
  refine ⟨a, v, zs, ?_, hz⟩
  obtain ⟨l⟩ := cs
  match l, hs with
  | [p, q], _ => simp at ha hb; subst ha; subst hb; rfl
end
end Go.Ro
