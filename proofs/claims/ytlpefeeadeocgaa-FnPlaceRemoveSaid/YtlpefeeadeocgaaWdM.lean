/- Worlds in plain lists. Conditions: those that each row states. -/
import Derived.Test.YtlpefeeadeocgaaRgU
namespace Go.Ro
open Go

abbrev It := Int × Int
def ic (x : It) : List Value := [.int .i64 x.1, .int .i64 x.2]
abbrev ItS := SlR 2 (EF ic)
theorem ItS.mono {G G' : View} {v : Value} {xs : List It} (h : ItS G v xs) (hG : VLe G G') : ItS G' v xs := EF.mono h hG
def keys (xs : List It) : List Int := xs.map (·.1)
def ItOk (xs : List It) : Prop := (∀ x ∈ xs, 0 ≤ x.2 ∧ x.2 ≤ 99) ∧ Asc (keys xs)
structure Wd where
  now : Int
  ring : List Nd
  leases : List Ls
  items : List It
  scan : Sn
  since : List Int
def SiOk (w : Wd) : Prop := ∀ k ∈ w.since, k ∈ keys w.items ∧ (k < w.scan.1 → k ∈ w.scan.2)
def WdOk (w : Wd) : Prop := Tm w.now ∧ RgSafe w.ring ∧ LsOk w.leases ∧ ItOk w.items ∧ SnOk w.scan ∧ Asc w.since ∧ SiOk w
def wdZ : Wd := ⟨0, [], [], [], (0, []), []⟩
def own (w : Wd) (k : Int) : Int := if (lsAt w.leases k).2.2 < w.now ∨ (lsAt w.leases k).2.1 ∉ ids w.ring then -1 else (lsAt w.leases k).2.1
/-- the values that a world is held in -/
structure Wv where
  now : Int
  r : Value
  l : Value
  i : Value
  next : Int
  t : Value
  s : Value
def wc (W : Wv) : List Value := [.int .i64 W.now, W.r, W.l, W.i, .int .i64 W.next, W.t, W.s]
structure WdS (G : View) (lc : Ls → List Value) (W : Wv) (w : Wd) (rs : List Rn) : Prop where
  now : W.now = w.now
  ring : RngS G W.r rs
  rg : rgl rs = w.ring
  leases : SlR 3 (EF lc) G W.l w.leases
  items : ItS G W.i w.items
  next : W.next = w.scan.1
  told : IntS G W.t w.scan.2
  since : IntS G W.s w.since
theorem WdS.mono {G G' : View} {lc : Ls → List Value} {W : Wv} {w : Wd} {rs : List Rn} (h : WdS G lc W w rs) (hG : VLe G G') : WdS G' lc W w rs :=
  ⟨h.now, h.ring.mono hG, h.rg, EF.mono h.leases hG, h.items.mono hG, h.next, h.told.mono hG, h.since.mono hG⟩
section
variable {e w : World} {G : View} {L : Own} {P : Program} {n : Nat} {f : Sl} {dst : Option Nat} {ty : TypeId} {pos : String} {af : Array Edge} {g : Option (Nat × Bool)}
end
/-- the ideal ring -/
def idN (xs : List Int) (i : Nat) : Nd := (xs.getD i 0, xs.getD (((i : Int) + xs.length - 1) % xs.length).toNat 0, [xs.getD (((i : Int) + 1) % xs.length).toNat 0, xs.getD (((i : Int) + 2) % xs.length).toNat 0])
def idl (xs : List Int) : List Nd := (List.range xs.length).map (idN xs)
def idTo (xs : List Int) (i : Nat) : List Nd := (List.range i).map (idN xs)
def NdsOk (xs : List Int) : Prop := (1 ≤ xs.length ∧ xs.length ≤ 10) ∧ Asc xs
/-- a new world -/
def newW (xs : List Int) : Wd := ⟨0, idl xs, xs.map (fun k => (k, k, 20)), [], (0, []), []⟩
def afl (xs : List Int) (i : Nat) : List Int := [xs.getD (((i : Int) + 1) % xs.length).toNat 0, xs.getD (((i : Int) + 2) % xs.length).toNat 0]
section
variable {P : Program} {n : Nat} {f : Sl} {w : World} {dst : Option Tmp} {ty : TypeId} {pos : String} {af : Array Edge} {g : Option (Nat × Bool)}
theorem run_eq_s2 {S : Nat} {f0 f1 : Field} {a b a' b' : Int} (hS : P.underlying S = some (.struct #[f0, f1])) (h0 : P.underlying f0.type = some (.int .i64)) (h1 : P.underlying f1.type = some (.int .i64))
    (n0 : f0.name ≠ "_") (n1 : f1.name ≠ "_") (o0 : f0.offset = 0) (o1 : f1.offset = 1) (hst : P.stoodInHeld S = false) (w : World) (d : Nat) :
    (Op.equalIn (d + 2) S (.agg #[.int .i64 a, .int .i64 b]) (.agg #[.int .i64 a', .int .i64 b'])).run P w = .ok (decide (a = a' ∧ b = b')) w := by
  have q0 : OneC P f0.type := ⟨_, h0, rfl⟩
  have q1 : OneC P f1.type := ⟨_, h1, rfl⟩
  have p0 := fun (x y : Value) (w : World) => run_part_one (xs := #[x, y]) (v := x) q0 (o := 0) rfl w
  have p1 := fun (x y : Value) (w : World) => run_part_one (xs := #[x, y]) (v := y) q1 (o := 1) rfl w
  rw [Op.equalIn]
  simp only [Sem.run_bind, run_underlying hS, Result.andThen_ok, run_program, hst]
  simp [n0, n1, o0, o1, p0, p1, run_equalIn_int h0, run_equalIn_int h1]
  by_cases e0 : a = a' <;> by_cases e1 : b = b' <;> simp [e0, e1]
theorem neS2 {S T' : Nat} {x y : Operand} {f0 f1 : Field} {a b a' b' : Int} (hS : P.underlying S = some (.struct #[f0, f1])) (h0 : P.underlying f0.type = some (.int .i64)) (h1 : P.underlying f1.type = some (.int .i64))
    (n0 : f0.name ≠ "_") (n1 : f1.name ≠ "_") (o0 : f0.offset = 0) (o1 : f1.offset = 1) (hst : P.stoodInHeld S = false) (hg : P.eqGuardType P.depth S = false)
    (hx : ev n f x = .agg #[.int .i64 a, .int .i64 b]) (hy : ev n f y = .agg #[.int .i64 a', .int .i64 b']) :
    St P n ⟨dst, .binOp .neq S x y T', ty, pos, af, g⟩ f w (.bool (decide (¬ (a = a' ∧ b = b')))) w := by
  have h := fun w => run_eq_s2 (P := P) (a := a) (b := b) (a' := a') (b' := b') hS h0 h1 n0 n1 o0 o1 hst w 9998
  have h' : ∀ w, (Op.equal S (.agg #[.int .i64 a, .int .i64 b]) (.agg #[.int .i64 a', .int .i64 b'])).run P w = .ok (decide (a = a' ∧ b = b')) w := h
  have hgd : (eqGuard .neq S x y (.agg #[.int .i64 a, .int .i64 b]) (.agg #[.int .i64 a', .int .i64 b'])).run P w = .ok () w := by
    unfold eqGuard
    simp [hg]
  unfold St execOp
  simp only [hx, hy, binOp, Sem.run_bind, hgd, h', Result.andThen_ok, Sem.run_pure]
  by_cases hh : a = a' ∧ b = b' <;> simp [hh]
end
/-- the next node -/
def nxt (xs : List Int) (k : Int) : Int := (xs.find? (fun x => decide (x ≥ k))).getD (xs.getD 0 0)
theorem SlR.lit0 {α : Type} {sz : Nat} {E : View → List Value → α → Prop} {G : View} {p : Option Addr} : SlR sz E G (.slice p 0 0) [] := ⟨⟨p, 0, rfl, Nat.le_refl _, Nat.zero_le _, .inl rfl⟩, fun i x h => by simp at h⟩
theorem WdS.zero {G : View} {lc : Ls → List Value} : WdS G lc ⟨0, .slice none 0 0, .slice none 0 0, .slice none 0 0, 0, .slice none 0 0, .slice none 0 0⟩ wdZ [] :=
  ⟨rfl, RngS.lit, rfl, SlR.lit0, SlR.lit0, rfl, SlR.lit0, SlR.lit0⟩
theorem pigeon (f : Nat → Int) : ∀ (n : Nat) (xs : List Int), xs.length = n → (∀ i j, i ≤ n → j ≤ n → f i = f j → i = j) → ∃ d, d ≤ n ∧ f d ∉ xs
  | 0, xs, h, _ => ⟨0, Nat.le_refl _, by rw [List.eq_nil_of_length_eq_zero h]; simp⟩
  | n + 1, xs, h, hf => by
    by_cases hm : f (n + 1) ∈ xs
    · obtain ⟨d, hd, hn⟩ := pigeon f n (xs.erase (f (n + 1))) (by rw [List.length_erase_of_mem hm]; omega) (fun i j hi hj => hf i j (by omega) (by omega))
      refine ⟨d, by omega, fun hx => hn ?_⟩
      exact (List.mem_erase_of_ne fun he => by have := hf d (n + 1) (by omega) (Nat.le_refl _) he; omega).2 hx
    · exact ⟨n + 1, Nat.le_refl _, hm⟩
/-- how far the next free place is -/
theorem freeAt {xs : List Int} (h : xs.length < 64) (p : Int) : ∃ d : Nat, (p + d) % 64 ∉ xs := by
  obtain ⟨d, _, hd⟩ := pigeon (fun d => (p + (d : Nat)) % 64) xs.length xs rfl (fun i j hi hj he => by have he' : (p + (i : Int)) % 64 = (p + (j : Int)) % 64 := he; omega)
  exact ⟨d, hd⟩
theorem Asc.ins {xs : List Int} (h : Asc xs) {p : Int} {k : Nat} (hp : Pt p) (_ : k ≤ xs.length) (h1 : ∀ x ∈ xs.take k, x < p) (h2 : ∀ hk : k < xs.length, ¬ xs[k] < p) (hn : p ∉ xs) : Asc (xs.take k ++ p :: xs.drop k) := by
  refine ⟨fun x hx => ?_, ?_⟩
  · rcases List.mem_append.1 hx with hx | hx
    · exact h.1 x (List.mem_of_mem_take hx)
    · rcases List.mem_cons.1 hx with rfl | hx
      · exact hp
      · exact h.1 x (List.mem_of_mem_drop hx)
  · have h0 := h.2
    rw [← List.take_append_drop k xs, List.pairwise_append] at h0
    rw [List.pairwise_append, List.pairwise_cons]
    have hd : ∀ x ∈ xs.drop k, p < x := fun x hx => by
      rcases Nat.lt_or_ge k xs.length with hlt | hge
      · rw [List.drop_eq_getElem_cons hlt] at hx
        have h3 := h2 hlt
        have hne : p ≠ xs[k] := fun e => hn (e ▸ List.getElem_mem hlt)
        rcases List.mem_cons.1 hx with rfl | hx
        · omega
        · have h4 := h0.2.1
          rw [List.drop_eq_getElem_cons hlt, List.pairwise_cons] at h4
          have := h4.1 x hx
          simp only [id] at this; omega
      · rw [List.drop_eq_nil_of_le hge] at hx; cases hx
    refine ⟨h0.1, ⟨fun x hx => hd x hx, h0.2.1⟩, fun x hx y hy => ?_⟩
    rcases List.mem_cons.1 hy with rfl | hy
    · exact h1 x hx
    · exact h0.2.2 x hx y hy
end Go.Ro
