/- Steps of leases in plain lists. Conditions: those that each row states. -/
import Derived.Test.YtbkfnnifkdgbkaaWdN
namespace Go.Ro

/-- what is handed on, taken, renewed -/
def handL (ls : List Ls) (fr at' to un : Int) : Option (List Ls) :=
  if (lsAt ls at').2.1 ≠ fr then none
  else if (lsAt ls at').1 = at' then some (ls.set (lAt ls at') (at', to, un))
  else if 12 ≤ ls.length then none
  else some (ls.takeWhile (fun x => decide (x.1 < at')) ++ (at', to, un) :: ls.dropWhile (fun x => decide (x.1 < at')))
def takeL (ls : List Ls) (key to now un : Int) : Option (List Ls) :=
  if now ≤ (lsAt ls key).2.2 then none else some (ls.set (lAt ls key) ((lsAt ls key).1, to, un))
def rnw (ow now un : Int) (x : Ls) : Bool := decide (x.2.1 = ow ∧ now ≤ x.2.2 ∧ x.2.2 < un)
def rn1 (ow now un : Int) (x : Ls) : Ls := if rnw ow now un x then (x.1, x.2.1, un) else x
def renewL (ls : List Ls) (ow now un : Int) : List Ls := ls.map (rn1 ow now un)
def renewN (ls : List Ls) (ow now un : Int) : Nat := ls.countP (rnw ow now un)
/-- what a step answers -/
noncomputable def tkL (ls : List Ls) (ok : Prop) (o : Option (List Ls)) : List Ls × Bool :=
  if dec (LsOk ls ∧ ok) = true then (match o with | some x => (x, true) | none => (ls, false)) else ([], false)
/-- what a step answers, read -/
def LsA (lc : Ls → List Value) (G : View) (r : Value) (o : List Ls × Bool) : Prop := ∃ v, r = .tuple #[v, .bool o.2] ∧ SlR 3 (EF lc) G v o.1
theorem LsA.mk {lc : Ls → List Value} {G : View} {v : Value} {b : Bool} {x : List Ls} {o : List Ls × Bool} (ho : o = (x, b)) (h : SlR 3 (EF lc) G v x) : LsA lc G (.tuple #[v, .bool b]) o := by
  subst ho; exact ⟨v, rfl, h⟩
/-- a step of a world's scan -/
def scW (w : Wd) : Wd := if w.scan.1 < 64 ∧ 0 ≤ own w w.scan.1 then { w with scan := stp w.leases (keys w.items) w.scan } else w
/-- an event of the ring -/
noncomputable def rgO (r : List Nd) (kd a b : Int) : List Nd × Bool :=
  if kd = 1 then tk r (Pt a ∧ Pt b) (joinR r a b) else if kd = 2 then tk r (Pt a) (failR r a) else if kd = 3 then tk r (Pt a) (dropR r a)
  else if kd = 4 then tk r (Pt a) (adoptR r a) else if kd = 5 then tk r (Pt a ∧ Pt b) (closerR r a b) else if kd = 6 then tk r (Pt a ∧ Pt b) (notifyR r a b) else (r, false)
noncomputable def rgW (w : Wd) (kd a b : Int) : Wd := if (rgO w.ring kd a b).2 = true then { w with ring := (rgO w.ring kd a b).1 } else w
/-- an event of the leases -/
def utl (n : Int) : Int := min (n + 20) 999
noncomputable def leO (w : Wd) (kd a b c : Int) : List Ls × Bool :=
  if a ∉ ids w.ring then (w.leases, false)
  else if kd = 7 then (if c ∈ ids w.ring ∧ Pt b ∧ own w b = a then tkL w.leases (Pt a ∧ Pt b ∧ Pt c ∧ Tm (utl w.now)) (handL w.leases a b c (utl w.now)) else (w.leases, false))
  else if kd = 8 then tkL w.leases (Pt b ∧ Pt a ∧ Tm w.now ∧ Tm (utl w.now)) (takeL w.leases b a w.now (utl w.now))
  else if kd = 9 then (if Pt a then (renewL w.leases a w.now (utl w.now), true) else (w.leases, false)) else (w.leases, false)
noncomputable def leW (w : Wd) (kd a b c : Int) : Wd := if (leO w kd a b c).2 = true then { w with leases := (leO w kd a b c).1 } else w
/-- an event of the items -/
def itf (b c : Int) : Bool → List It → List It
  | p, [] => if p then [] else [(b, c)]
  | p, x :: xs => (if p = false ∧ b ≤ x.1 then [(b, c)] else []) ++ ((if x.1 ≠ b then [x] else []) ++ itf b c (p || decide (b ≤ x.1)) xs)
noncomputable def itW (w : Wd) (kd a b c : Int) : Wd :=
  if Pt b ∧ own w b = a ∧ 0 ≤ a ∧ (kd = 11 → 0 ≤ c ∧ c ≤ 99) then { w with items := itf b c (decide (kd = 12)) w.items, since := if kd = 12 then w.since.filter (fun x => decide (x ≠ b)) else w.since } else w
/-- an event of a world -/
noncomputable def doW (w : Wd) (kd a b c : Int) : Wd :=
  if kd = 7 ∨ kd = 8 ∨ kd = 9 then leW w kd a b c else if kd = 10 then { w with now := min (w.now + 1) 999 } else if kd = 11 ∨ kd = 12 then itW w kd a b c
  else if kd = 13 then { w with scan := (0, []), since := keys w.items } else if kd = 14 then scW w else rgW w kd a b
structure WdA (w : Wd) : Prop where
  now : Tm w.now
  ls : LsOk w.leases
  it : ItOk w.items
  sc : SnOk w.scan
  si : Asc w.since
theorem WdA.zl {w : Wd} (h : WdA w) : w.items.length ≤ 64 := by have := h.it.2.len; rwa [keys_len] at this
end Go.Ro
