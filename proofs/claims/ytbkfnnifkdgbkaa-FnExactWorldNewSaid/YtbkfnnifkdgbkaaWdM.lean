/- Worlds in plain lists. Conditions: those that each row states. -/
import Derived.Test.YtbkfnnifkdgbkaaRgU
namespace Go.Ro
open Go

abbrev It := Int × Int
def ic (x : It) : List Value := [.int .i64 x.1, .int .i64 x.2]
abbrev ItS := SlR 2 (EF ic)
theorem ItS.mono {G G' : View} {v : Value} {xs : List It} (h : ItS G v xs) (hG : VLe G G') : ItS G' v xs := EF.mono h hG
def keys (xs : List It) : List Int := xs.map (·.1)
def ItOk (xs : List It) : Prop := (∀ x ∈ xs, 0 ≤ x.2 ∧ x.2 ≤ 99) ∧ Asc (keys xs)
structure Wd where
  now : Int
  ring : List Nd
  leases : List Ls
  items : List It
  scan : Sn
  since : List Int
def SiOk (w : Wd) : Prop := ∀ k ∈ w.since, k ∈ keys w.items ∧ (k < w.scan.1 → k ∈ w.scan.2)
def WdOk (w : Wd) : Prop := Tm w.now ∧ RgSafe w.ring ∧ LsOk w.leases ∧ ItOk w.items ∧ SnOk w.scan ∧ Asc w.since ∧ SiOk w
def wdZ : Wd := ⟨0, [], [], [], (0, []), []⟩
def own (w : Wd) (k : Int) : Int := if (lsAt w.leases k).2.2 < w.now ∨ (lsAt w.leases k).2.1 ∉ ids w.ring then -1 else (lsAt w.leases k).2.1
/-- the values that a world is held in -/
structure Wv where
  now : Int
  r : Value
  l : Value
  i : Value
  next : Int
  t : Value
  s : Value
def wc (W : Wv) : List Value := [.int .i64 W.now, W.r, W.l, W.i, .int .i64 W.next, W.t, W.s]
structure WdS (G : View) (lc : Ls → List Value) (W : Wv) (w : Wd) (rs : List Rn) : Prop where
  now : W.now = w.now
  ring : RngS G W.r rs
  rg : rgl rs = w.ring
  leases : SlR 3 (EF lc) G W.l w.leases
  items : ItS G W.i w.items
  next : W.next = w.scan.1
  told : IntS G W.t w.scan.2
  since : IntS G W.s w.since
theorem WdS.mono {G G' : View} {lc : Ls → List Value} {W : Wv} {w : Wd} {rs : List Rn} (h : WdS G lc W w rs) (hG : VLe G G') : WdS G' lc W w rs :=
  ⟨h.now, h.ring.mono hG, h.rg, EF.mono h.leases hG, h.items.mono hG, h.next, h.told.mono hG, h.since.mono hG⟩
theorem keys_len (xs : List It) : (keys xs).length = xs.length := by simp [keys]
section
variable {e w : World} {G : View} {L : Own} {P : Program} {n : Nat} {f : Sl} {dst : Option Nat} {ty : TypeId} {pos : String} {af : Array Edge} {g : Option (Nat × Bool)}
/-- a struct that is a part of a block of the walk's own -/
theorem lsP {T sz : Nat} {x : Operand} {b t o : Nat} {cs u : List Value} (hK : K e w G L) (h1 : AggC P T) (hs : (P.info? T).map (·.size) = some sz) (k : Nat) (hn : L[k]? = some (b, row cs t))
    (hp : ev n f x = .pointer (some ⟨b, o, none⟩)) (hl : u.length = sz) (hu : (cs.drop o).take u.length = u) : St P n ⟨dst, .load T x, ty, pos, af, g⟩ f w (.agg u.toArray) w :=
  lsC h1 hs hp hl fun j c hj => by
    rw [row_cell (hK.own _ _ (List.mem_of_getElem? hn))]
    have hlt := (List.getElem?_eq_some_iff.1 hj).1
    rw [← hu, List.getElem?_take, if_pos hlt, List.getElem?_drop] at hj
    exact hj
end
/-- the ideal ring -/
def idN (xs : List Int) (i : Nat) : Nd := (xs.getD i 0, xs.getD (((i : Int) + xs.length - 1) % xs.length).toNat 0, [xs.getD (((i : Int) + 1) % xs.length).toNat 0, xs.getD (((i : Int) + 2) % xs.length).toNat 0])
def idl (xs : List Int) : List Nd := (List.range xs.length).map (idN xs)
def idTo (xs : List Int) (i : Nat) : List Nd := (List.range i).map (idN xs)
theorem idTo_succ (xs : List Int) (i : Nat) : idTo xs (i + 1) = idTo xs i ++ [idN xs i] := by unfold idTo; rw [List.range_succ, List.map_append]; rfl
def NdsOk (xs : List Int) : Prop := (1 ≤ xs.length ∧ xs.length ≤ 10) ∧ Asc xs
theorem md {a n : Int} (h : 0 < n) : 0 ≤ a % n ∧ a % n < n := ⟨Int.emod_nonneg _ (by omega), Int.emod_lt_of_pos _ h⟩
theorem getD_of {xs : List Int} {i : Nat} (h : i < xs.length) : xs[i] = xs.getD i 0 := by rw [List.getD_eq_getElem?_getD, List.getElem?_eq_getElem h]; rfl
/-- a new world -/
def newW (xs : List Int) : Wd := ⟨0, idl xs, xs.map (fun k => (k, k, 20)), [], (0, []), []⟩
def afl (xs : List Int) (i : Nat) : List Int := [xs.getD (((i : Int) + 1) % xs.length).toNat 0, xs.getD (((i : Int) + 2) % xs.length).toNat 0]
theorem afl_succ (xs : List Int) (i k : Nat) (h : k < 2) : (afl xs i).take k ++ [xs.getD (((i : Int) + ((k : Int) + 1)) % xs.length).toNat 0] = (afl xs i).take (k + 1) := by
  match k, h with
  | 0, _ => rfl
  | 1, _ => rfl
theorem nd_eq {x y : Rn} (h1 : x.1 = y.1) (h2 : x.2.1 = y.2.1) (h3 : x.2.2.2 = y.2.2.2) : nd x = nd y := by unfold nd; rw [h1, h2, h3]
section
variable {P : Program} {n : Nat} {f : Sl} {w : World} {dst : Option Tmp} {ty : TypeId} {pos : String} {af : Array Edge} {g : Option (Nat × Bool)}
end
theorem wd_eq {a b : Wd} (h1 : a.now = b.now) (h2 : a.ring = b.ring) (h3 : a.leases = b.leases) (h4 : a.items = b.items) (h5 : a.scan = b.scan) (h6 : a.since = b.since) : a = b := by
  cases a; cases b; simp_all
/-- the next node -/
def nxt (xs : List Int) (k : Int) : Int := (xs.find? (fun x => decide (x ≥ k))).getD (xs.getD 0 0)
theorem SlR.lit0 {α : Type} {sz : Nat} {E : View → List Value → α → Prop} {G : View} {p : Option Addr} : SlR sz E G (.slice p 0 0) [] := ⟨⟨p, 0, rfl, Nat.le_refl _, Nat.zero_le _, .inl rfl⟩, fun i x h => by simp at h⟩
theorem WdS.zero {G : View} {lc : Ls → List Value} : WdS G lc ⟨0, .slice none 0 0, .slice none 0 0, .slice none 0 0, 0, .slice none 0 0, .slice none 0 0⟩ wdZ [] :=
  ⟨rfl, RngS.lit, rfl, SlR.lit0, SlR.lit0, rfl, SlR.lit0, SlR.lit0⟩
theorem ids_idl (xs : List Int) : ids (idl xs) = xs := by
  unfold ids idl
  rw [List.map_map]
  apply List.ext_getElem
  · simp
  · intro i h1 h2
    simp only [List.getElem_map, List.getElem_range, Function.comp]
    unfold idN
    exact (getD_of h2).symm
end Go.Ro
