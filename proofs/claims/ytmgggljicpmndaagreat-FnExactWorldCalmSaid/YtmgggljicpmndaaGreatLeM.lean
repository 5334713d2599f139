/- Reading worlds: from the given statement's reading to plain lists. New worlds: what is true of them. Steps of leases in plain lists. Conditions: those that each row states. -/
import Derived.Test.YtmgggljicpmndaaGreatRgT
import Derived.Test.YtmgggljicpmndaaGreatRgS
import Derived.Test.YtmgggljicpmndaaGreatWdM
namespace Go.Ro
open Go Go.ChangeShapes Go.WideShapes Go.RowKit
section
variable {H : Type} {enc : TypeId × Value → H} {P : Program} {w : World} {base : Nat} {held : Bool}
variable {t : TypeId} {fs : Array Field} {f : Field} {fuel i o k : Nat} {cs : List Value} {x : DataW H × List MemPlace}
theorem read_fieldN {spare : Nat → Bool} (ht : P.underlying t = some (.struct fs)) (hi : fs[i]? = some f) (ho : f.offset = o) (hc : P.cellsOf f.type = k) (hcl : o + k ≤ P.cellsOf t)
    (h : DataW.trod enc P w base spare held fuel t cs = some x) : ∃ m y, ((cs.drop o).take k).length = k ∧ DataW.trod enc P w base spare held m f.type ((cs.drop o).take k) = some y := by
  obtain ⟨xs, n, _, _, hcs, hl, hx⟩ := DataW.trod_struct ht h
  have h1 := hx i f hi
  have hlt : i < fs.size := by
    rcases Nat.lt_or_ge i fs.size with h | h
    · exact h
    · rw [Array.getElem?_eq_none h] at hi; cases hi
  rw [List.getElem?_eq_getElem (by omega), ho, hc] at h1
  exact ⟨n, _, by rw [List.length_take, List.length_drop]; omega, h1⟩
theorem read_fsl {α : Type} {E : View → List Value → α → Prop} {e : TypeId} {sz : Nat} (ht : P.underlying t = some (.struct fs)) (hi : fs[i]? = some f) (ho : f.offset = o) (hc1 : P.cellsOf f.type = 1) (hcl : o < P.cellsOf t)
    (hk : P.underlying f.type = some (.slice e)) (hc : P.cellsOf e = sz) (hsz : 1 ≤ sz)
    (hel : ∀ fuel cs x, cs.length = sz → DataW.trod enc P w base (fun _ => true) held fuel e cs = some x → ∃ y, E (hvw w) cs y)
    (h : DataW.trod enc P w base (fun _ => true) held fuel t cs = some x) : ∃ v ys, cs[o]? = some v ∧ SlR sz E (hvw w) v ys := by
  obtain ⟨m, v, y, h1, h2⟩ := read_field ht hi ho hc1 hcl h
  obtain ⟨ys, h3⟩ := read_sl hk hc hsz hel h2
  exact ⟨v, ys, h1, h3⟩
theorem read_nd {e : TypeId} {f0 f1 f2 : Field} (ht : P.underlying t = some (.struct #[f0, f1, f2])) (hc : P.cellsOf t = 3)
    (h0 : f0.offset = 0 ∧ P.cellsOf f0.type = 1 ∧ P.underlying f0.type = some (.int .i64)) (h1 : f1.offset = 1 ∧ P.cellsOf f1.type = 1 ∧ P.underlying f1.type = some (.int .i64))
    (h2 : f2.offset = 2 ∧ P.cellsOf f2.type = 1 ∧ P.underlying f2.type = some (.slice e)) (he : P.underlying e = some (.int .i64) ∧ P.cellsOf e = 1) (hl : cs.length = 3)
    (h : DataW.trod enc P w base (fun _ => true) held fuel t cs = some x) : ∃ y : Rn, EF rc (hvw w) cs y ∧ IntS (hvw w) y.2.2.1 y.2.2.2 := by
  obtain ⟨a, ha⟩ := read_int (i := 0) ht rfl h0.1 h0.2.1 (by omega) h0.2.2 h
  obtain ⟨b, hb⟩ := read_int (i := 1) ht rfl h1.1 h1.2.1 (by omega) h1.2.2 h
  obtain ⟨v, zs, hcc, hz⟩ := read_fints (i := 2) ht rfl h2.1 h2.2.1 (by omega) h2.2.2 he.1 he.2 h
  refine ⟨(a, b, v, zs), ?_, hz⟩
  match cs, hl with
  | [p, q, r], _ => simp at ha hb hcc; subst ha; subst hb; subst hcc; rfl
theorem read_it {spare : Nat → Bool} {f0 f1 : Field} (ht : P.underlying t = some (.struct #[f0, f1])) (hc : P.cellsOf t = 2)
    (h0 : f0.offset = 0 ∧ P.cellsOf f0.type = 1 ∧ P.underlying f0.type = some (.int .i64)) (h1 : f1.offset = 1 ∧ P.cellsOf f1.type = 1 ∧ P.underlying f1.type = some (.int .i64)) (hl : cs.length = 2)
    (h : DataW.trod enc P w base spare held fuel t cs = some x) {G : View} : ∃ y : It, EF ic G cs y := by
  obtain ⟨a, ha⟩ := read_int (i := 0) ht rfl h0.1 h0.2.1 (by omega) h0.2.2 h
  obtain ⟨b, hb⟩ := read_int (i := 1) ht rfl h1.1 h1.2.1 (by omega) h1.2.2 h
  refine ⟨(a, b), ?_⟩
  match cs, hl with
  | [p, q], _ => simp at ha hb; subst ha; subst hb; rfl
theorem read_scanL {e : TypeId} {f0 f1 : Field} (ht : P.underlying t = some (.struct #[f0, f1])) (hc : P.cellsOf t = 2)
    (h0 : f0.offset = 0 ∧ P.cellsOf f0.type = 1 ∧ P.underlying f0.type = some (.int .i64))
    (h1 : f1.offset = 1 ∧ P.cellsOf f1.type = 1 ∧ P.underlying f1.type = some (.slice e)) (he : P.underlying e = some (.int .i64) ∧ P.cellsOf e = 1) (hs : cs.length = 2)
    (h : DataW.trod enc P w base (fun _ => true) held fuel t cs = some x) : ∃ n v zs, cs = [.int .i64 n, v] ∧ IntS (hvw w) v zs := by
  obtain ⟨n, v, zs, h1, h2⟩ := read_scan (cs := cs.toArray) ht hc h0 h1 he (by simpa using hs) (by simpa using h)
  exact ⟨n, v, zs, by simpa using congrArg Array.toList h1, h2⟩
theorem rng_of {G : View} {v : Value} {rs : List Rn} (h : SlR 3 (fun G cs (y : Rn) => EF rc G cs y ∧ IntS G y.2.2.1 y.2.2.2) G v rs) : RngS G v rs :=
  ⟨⟨h.1, fun i x hx => by obtain ⟨cs, a, b, c, _⟩ := h.2 i x hx; exact ⟨cs, a, b, c⟩⟩, fun x hx => by
    obtain ⟨i, hi⟩ := List.getElem?_of_mem hx
    obtain ⟨cs, _, _, _, d⟩ := h.2 i x hi; exact d⟩
theorem read_world {lc : Ls → List Value} {f0 f1 f2 f3 f4 f5 : Field} (ht : P.underlying t = some (.struct #[f0, f1, f2, f3, f4, f5])) (hc : P.cellsOf t = 7)
    (ho : f0.offset = 0 ∧ f1.offset = 1 ∧ f2.offset = 2 ∧ f3.offset = 3 ∧ f4.offset = 4 ∧ f5.offset = 6)
    (hs : P.cellsOf f0.type = 1 ∧ P.cellsOf f1.type = 1 ∧ P.cellsOf f2.type = 1 ∧ P.cellsOf f3.type = 1 ∧ P.cellsOf f4.type = 2 ∧ P.cellsOf f5.type = 1)
    (h0 : P.underlying f0.type = some (.int .i64)) {e1 e2 e3 e5 : TypeId} (h1 : P.underlying f1.type = some (.slice e1)) (h2 : P.underlying f2.type = some (.slice e2)) (h3 : P.underlying f3.type = some (.slice e3))
    (h5 : P.underlying f5.type = some (.slice e5)) (he5 : P.underlying e5 = some (.int .i64) ∧ P.cellsOf e5 = 1) (hcs : P.cellsOf e1 = 3 ∧ P.cellsOf e2 = 3 ∧ P.cellsOf e3 = 2)
    (r1 : ∀ fuel cs x, cs.length = 3 → DataW.trod enc P w base (fun _ => true) held fuel e1 cs = some x → ∃ y : Rn, EF rc (hvw w) cs y ∧ IntS (hvw w) y.2.2.1 y.2.2.2)
    (r2 : ∀ fuel cs x, cs.length = 3 → DataW.trod enc P w base (fun _ => true) held fuel e2 cs = some x → ∃ y : Ls, EF lc (hvw w) cs y)
    (r3 : ∀ fuel cs x, cs.length = 2 → DataW.trod enc P w base (fun _ => true) held fuel e3 cs = some x → ∃ y : It, EF ic (hvw w) cs y)
    (r4 : ∀ fuel cs x, cs.length = 2 → DataW.trod enc P w base (fun _ => true) held fuel f4.type cs = some x → ∃ n v zs, cs = [.int .i64 n, v] ∧ IntS (hvw w) v zs)
    {ca : Array Value} (hz : ca.size = 7) (h : DataW.trod enc P w base (fun _ => true) held fuel t ca.toList = some x) : ∃ W wd rs, ca = (wc W).toArray ∧ WdS (hvw w) lc W wd rs := by
  obtain ⟨o0, o1, o2, o3, o4, o5⟩ := ho
  obtain ⟨s0, s1, s2, s3, s4, s5⟩ := hs
  obtain ⟨now, g0⟩ := read_int (i := 0) ht rfl o0 s0 (by omega) h0 h
  obtain ⟨vr, rs, g1, k1⟩ := read_fsl (i := 1) (E := fun G cs (y : Rn) => EF rc G cs y ∧ IntS G y.2.2.1 y.2.2.2) ht rfl o1 s1 (by omega) h1 hcs.1 (by omega) r1 h
  obtain ⟨vl, ls, g2, k2⟩ := read_fsl (i := 2) (E := EF lc) ht rfl o2 s2 (by omega) h2 hcs.2.1 (by omega) r2 h
  obtain ⟨vi, zs, g3, k3⟩ := read_fsl (i := 3) (E := EF ic) ht rfl o3 s3 (by omega) h3 hcs.2.2 (by omega) r3 h
  obtain ⟨m, y, g4, k4⟩ := read_fieldN (i := 4) (k := 2) ht rfl o4 s4 (by omega) h
  obtain ⟨nx, vt, ts, e4, k4⟩ := r4 _ _ _ g4 k4
  obtain ⟨vs, ss, g5, k5⟩ := read_fints (i := 5) ht rfl o5 s5 (by omega) h5 he5.1 he5.2 h
  refine ⟨⟨now, vr, vl, vi, nx, vt, vs⟩, ⟨now, rgl rs, ls, zs, (nx, ts), ss⟩, rs, ?_, ⟨rfl, rng_of k1, rfl, k2, k3, rfl, k4, k5⟩⟩
  obtain ⟨l⟩ := ca
  match l, hz with
  | [p0, p1, p2, p3, p4, p5, p6], _ =>
    simp at g0 g1 g2 g3 e4 g5
    subst g0; subst g1; subst g2; subst g3; subst g5
    obtain ⟨rfl, rfl⟩ := e4
    rfl
end
theorem Asc.mono {xs : List Int} (h : Asc xs) {i j : Nat} (hi : i < xs.length) (hj : j < xs.length) : xs[i] < xs[j] ↔ i < j := by
  have hp := List.pairwise_iff_getElem.1 h.2
  constructor
  · intro hl
    rcases Nat.lt_trichotomy i j with h1 | h1 | h1
    · exact h1
    · subst h1; omega
    · have := hp j i hj hi h1; simp only [id] at this; omega
  · intro hl
    exact hp i j hi hj hl
theorem Asc.next {xs : List Int} (h : Asc xs) (h3 : 3 ≤ xs.length) {i : Nat} (hi : i < xs.length) {k : Int} (hk : k ∈ xs) : btw xs[i] k (xs[(i + 1) % xs.length]'(Nat.mod_lt _ (by omega))) = false := by
  obtain ⟨j, hj, rfl⟩ := List.getElem_of_mem hk
  have hm := Nat.mod_lt (i + 1) (show xs.length > 0 by omega)
  have h1 := h.mono hi hj
  have h2 := h.mono hj hm
  have h4 := h.mono hi hm
  rcases Nat.lt_or_ge (i + 1) xs.length with hc | hc
  · have e : (i + 1) % xs.length = i + 1 := Nat.mod_eq_of_lt hc
    have : i < (i + 1) % xs.length := by omega
    unfold btw
    rw [if_pos (h4.2 this)]
    refine decide_eq_false ?_
    rintro ⟨g1, g2⟩
    have := h1.1 g1
    have := h2.1 g2
    omega
  · have e : (i + 1) % xs.length = 0 := by rw [show i + 1 = xs.length by omega]; exact Nat.mod_self _
    unfold btw
    rw [if_neg (fun g => by have := h4.1 g; omega)]
    refine decide_eq_false ?_
    rintro (g | g)
    · have := h1.1 g; omega
    · have := h2.1 g; omega
theorem idx_mod (a n : Nat) : ((a : Int) % (n : Int)).toNat = a % n := rfl
theorem idN_eq {xs : List Int} (h3 : 3 ≤ xs.length) {i : Nat} (hi : i < xs.length) :
    idN xs i = (xs[i], xs[(i + xs.length - 1) % xs.length]'(Nat.mod_lt _ (by omega)), [xs[(i + 1) % xs.length]'(Nat.mod_lt _ (by omega)), xs[((i + 1) % xs.length + 1) % xs.length]'(Nat.mod_lt _ (by omega))]) := by
  have e1 : (((i : Int) + xs.length - 1) % xs.length).toNat = (i + xs.length - 1) % xs.length := by
    rw [show ((i : Int) + xs.length - 1) = ((i + xs.length - 1 : Nat) : Int) by omega]; rfl
  have e3 : (((i : Int) + 2) % xs.length).toNat = ((i + 1) % xs.length + 1) % xs.length := by
    rw [show ((i : Int) + 2) = ((i + 2 : Nat) : Int) by omega, idx_mod, Nat.mod_add_mod]
  have e2 : (((i : Int) + 1) % xs.length).toNat = (i + 1) % xs.length := rfl
  unfold idN
  rw [e1, e2, e3, ← getD_of hi, ← getD_of (Nat.mod_lt _ (by omega)), ← getD_of (Nat.mod_lt _ (by omega)), ← getD_of (Nat.mod_lt _ (by omega))]
theorem mem_idl {xs : List Int} {x : Nd} (h : x ∈ idl xs) : ∃ i, i < xs.length ∧ x = idN xs i := by
  obtain ⟨i, hi, rfl⟩ := List.mem_map.1 h
  exact ⟨i, List.mem_range.1 hi, rfl⟩
theorem idl_ok {xs : List Int} (h : NdsOk xs) (h3 : 3 ≤ xs.length) : RgOk (idl xs) := by
  refine ⟨by have := h.1.2; simp [idl]; omega, fun x hx => ?_, ?_⟩
  · obtain ⟨i, hi, rfl⟩ := mem_idl hx
    rw [idN_eq h3 hi]
    refine ⟨h.2.pt _, .inr (h.2.pt _), rfl, fun k hk => ?_⟩
    simp only [List.mem_cons, List.not_mem_nil, or_false] at hk
    rcases hk with rfl | rfl
    · exact h.2.pt _
    · exact h.2.pt _
  · have := h.2.2
    rw [← ids_idl xs] at this
    exact List.pairwise_map.1 this
theorem idl_skn {xs : List Int} (h : NdsOk xs) (h3 : 3 ≤ xs.length) {x : Nd} (hx : x ∈ idl xs) {k : Int} (hk : k ∈ xs) : skn x k = false := by
  obtain ⟨i, hi, rfl⟩ := mem_idl hx
  rw [idN_eq h3 hi, skn2 rfl]
  have hm := Nat.mod_lt (i + 1) (show xs.length > 0 by omega)
  have h1 := h.2.next h3 hi hk
  have h2 := h.2.next h3 hm hk
  show (btw _ _ (xs[(i + 1) % xs.length]) || btw (xs[(i + 1) % xs.length]) k (xs[((i + 1) % xs.length + 1) % xs.length]'(Nat.mod_lt _ (by omega)))) = false
  rw [h1, h2]; rfl
theorem idl_safe {xs : List Int} (h : NdsOk xs) (h3 : 3 ≤ xs.length) : RgSafe (idl xs) := by
  refine ⟨idl_ok h h3, fun x hx => ?_, ?_⟩
  · obtain ⟨i, hi, rfl⟩ := mem_idl hx
    rw [idN_eq h3 hi, ids_idl]
    exact ⟨_, List.mem_cons_self .., List.getElem_mem _⟩
  · have : prin (idl xs) = xs := by
      unfold prin
      rw [ids_idl, List.filter_eq_self]
      intro k hk
      rw [Bool.not_eq_true', List.any_eq_false]
      intro x hx
      rw [idl_skn h h3 hx hk]; simp
    rw [this]; exact h3
theorem newLs_ok {xs : List Int} (h : NdsOk xs) {t : Int} (ht : Tm t) : LsOk (xs.map fun k => (k, k, t)) := by
  refine ⟨by have := h.1; simp; omega, fun x hx => ?_, List.pairwise_map.2 h.2.2⟩
  obtain ⟨k, hk, rfl⟩ := List.mem_map.1 hx
  exact ⟨h.2.1 k hk, h.2.1 k hk, ht⟩
def handL (ls : List Ls) (fr at' to un : Int) : Option (List Ls) :=
  if (lsAt ls at').2.1 ≠ fr then none
  else if (lsAt ls at').1 = at' then some (ls.set (lAt ls at') (at', to, un))
  else if 12 ≤ ls.length then none
  else some (ls.takeWhile (fun x => decide (x.1 < at')) ++ (at', to, un) :: ls.dropWhile (fun x => decide (x.1 < at')))
def takeL (ls : List Ls) (key to now un : Int) : Option (List Ls) :=
  if now ≤ (lsAt ls key).2.2 then none else some (ls.set (lAt ls key) ((lsAt ls key).1, to, un))
def rnw (ow now un : Int) (x : Ls) : Bool := decide (x.2.1 = ow ∧ now ≤ x.2.2 ∧ x.2.2 < un)
def rn1 (ow now un : Int) (x : Ls) : Ls := if rnw ow now un x then (x.1, x.2.1, un) else x
def renewL (ls : List Ls) (ow now un : Int) : List Ls := ls.map (rn1 ow now un)
def renewN (ls : List Ls) (ow now un : Int) : Nat := ls.countP (rnw ow now un)
noncomputable def tkL (ls : List Ls) (ok : Prop) (o : Option (List Ls)) : List Ls × Bool :=
  if dec (LsOk ls ∧ ok) = true then (match o with | some x => (x, true) | none => (ls, false)) else ([], false)
def LsA (lc : Ls → List Value) (G : View) (r : Value) (o : List Ls × Bool) : Prop := ∃ v, r = .tuple #[v, .bool o.2] ∧ SlR 3 (EF lc) G v o.1
theorem LsA.mk {lc : Ls → List Value} {G : View} {v : Value} {b : Bool} {x : List Ls} {o : List Ls × Bool} (ho : o = (x, b)) (h : SlR 3 (EF lc) G v x) : LsA lc G (.tuple #[v, .bool b]) o := by
  subst ho; exact ⟨v, rfl, h⟩
theorem tw_gen {α : Type} {p : α → Bool} {xs : List α} {m : Nat} (hlt : ∀ x ∈ xs.take m, p x = true) (hge : ∀ h : m < xs.length, p xs[m] = false) : xs.takeWhile p = xs.take m ∧ xs.dropWhile p = xs.drop m := by
  have h2 : (xs.drop m).takeWhile p = [] ∧ (xs.drop m).dropWhile p = xs.drop m := by
    rcases Nat.lt_or_ge m xs.length with h | h
    · rw [List.drop_eq_getElem_cons h, List.takeWhile_cons_of_neg (by rw [hge h]; simp), List.dropWhile_cons_of_neg (by rw [hge h]; simp)]; exact ⟨rfl, rfl⟩
    · rw [List.drop_eq_nil_of_le h]; exact ⟨rfl, rfl⟩
  constructor
  · conv => lhs; rw [← List.take_append_drop m xs]
    rw [List.takeWhile_append_of_pos hlt, h2.1, List.append_nil]
  · conv => lhs; rw [← List.take_append_drop m xs]
    rw [List.dropWhile_append_of_pos hlt, h2.2]
def scW (w : Wd) : Wd := if w.scan.1 < 64 ∧ 0 ≤ own w w.scan.1 then { w with scan := stp w.leases (keys w.items) w.scan } else w
noncomputable def rgO (r : List Nd) (kd a b : Int) : List Nd × Bool :=
  if kd = 1 then tk r (Pt a ∧ Pt b) (joinR r a b) else if kd = 2 then tk r (Pt a) (failR r a) else if kd = 3 then tk r (Pt a) (dropR r a)
  else if kd = 4 then tk r (Pt a) (adoptR r a) else if kd = 5 then tk r (Pt a ∧ Pt b) (closerR r a b) else if kd = 6 then tk r (Pt a ∧ Pt b) (notifyR r a b) else (r, false)
noncomputable def rgW (w : Wd) (kd a b : Int) : Wd := if (rgO w.ring kd a b).2 = true then { w with ring := (rgO w.ring kd a b).1 } else w
def utl (n : Int) : Int := min (n + 20) 999
noncomputable def leO (w : Wd) (kd a b c : Int) : List Ls × Bool :=
  if a ∉ ids w.ring then (w.leases, false)
  else if kd = 7 then (if c ∈ ids w.ring ∧ Pt b ∧ own w b = a then tkL w.leases (Pt a ∧ Pt b ∧ Pt c ∧ Tm (utl w.now)) (handL w.leases a b c (utl w.now)) else (w.leases, false))
  else if kd = 8 then tkL w.leases (Pt b ∧ Pt a ∧ Tm w.now ∧ Tm (utl w.now)) (takeL w.leases b a w.now (utl w.now))
  else if kd = 9 then (if Pt a then (renewL w.leases a w.now (utl w.now), true) else (w.leases, false)) else (w.leases, false)
noncomputable def leW (w : Wd) (kd a b c : Int) : Wd := if (leO w kd a b c).2 = true then { w with leases := (leO w kd a b c).1 } else w
theorem utl_tm {n : Int} (h : Tm n) : Tm (utl n) := by unfold utl; exact ⟨by have := h.1; omega, by omega⟩
def itf (b c : Int) : Bool → List It → List It
  | p, [] => if p then [] else [(b, c)]
  | p, x :: xs => (if p = false ∧ b ≤ x.1 then [(b, c)] else []) ++ ((if x.1 ≠ b then [x] else []) ++ itf b c (p || decide (b ≤ x.1)) xs)
noncomputable def itW (w : Wd) (kd a b c : Int) : Wd :=
  if Pt b ∧ own w b = a ∧ 0 ≤ a ∧ (kd = 11 → 0 ≤ c ∧ c ≤ 99) then { w with items := itf b c (decide (kd = 12)) w.items, since := if kd = 12 then w.since.filter (fun x => decide (x ≠ b)) else w.since } else w
noncomputable def doW (w : Wd) (kd a b c : Int) : Wd :=
  if kd = 7 ∨ kd = 8 ∨ kd = 9 then leW w kd a b c else if kd = 10 then { w with now := min (w.now + 1) 999 } else if kd = 11 ∨ kd = 12 then itW w kd a b c
  else if kd = 13 then { w with scan := (0, []), since := keys w.items } else if kd = 14 then scW w else rgW w kd a b
structure WdA (w : Wd) : Prop where
  now : Tm w.now
  ls : LsOk w.leases
  it : ItOk w.items
  sc : SnOk w.scan
  si : Asc w.since
theorem WdOk.wda {w : Wd} (h : WdOk w) : WdA w := ⟨h.1, h.2.2.1, h.2.2.2.1, h.2.2.2.2.1, h.2.2.2.2.2.1⟩
theorem WdA.zl {w : Wd} (h : WdA w) : w.items.length ≤ 64 := by have := h.it.2.len; rwa [keys_len] at this
end Go.Ro
