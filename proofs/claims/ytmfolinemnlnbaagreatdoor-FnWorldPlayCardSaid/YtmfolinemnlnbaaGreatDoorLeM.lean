/- Worlds in plain lists. New worlds: what is true of them. Steps of leases in plain lists. Conditions: those that each row states. -/
import Derived.Test.YtmfolinemnlnbaaGreatDoorRgU
namespace Go.Ro
open Go
abbrev It := Int × Int
def ic (x : It) : List Value := [.int .i64 x.1, .int .i64 x.2]
abbrev ItS := SlR 2 (EF ic)
theorem ItS.mono {G G' : View} {v : Value} {xs : List It} (h : ItS G v xs) (hG : VLe G G') : ItS G' v xs := EF.mono h hG
def keys (xs : List It) : List Int := xs.map (·.1)
def ItOk (xs : List It) : Prop := (∀ x ∈ xs, 0 ≤ x.2 ∧ x.2 ≤ 99) ∧ Asc (keys xs)
structure Wd where
  now : Int
  ring : List Nd
  leases : List Ls
  items : List It
  scan : Sn
  since : List Int
def SiOk (w : Wd) : Prop := ∀ k ∈ w.since, k ∈ keys w.items ∧ (k < w.scan.1 → k ∈ w.scan.2)
def WdOk (w : Wd) : Prop := Tm w.now ∧ RgSafe w.ring ∧ LsOk w.leases ∧ ItOk w.items ∧ SnOk w.scan ∧ Asc w.since ∧ SiOk w
def wdZ : Wd := ⟨0, [], [], [], (0, []), []⟩
def own (w : Wd) (k : Int) : Int := if (lsAt w.leases k).2.2 < w.now ∨ (lsAt w.leases k).2.1 ∉ ids w.ring then -1 else (lsAt w.leases k).2.1
structure Wv where
  now : Int
  r : Value
  l : Value
  i : Value
  next : Int
  t : Value
  s : Value
def wc (W : Wv) : List Value := [.int .i64 W.now, W.r, W.l, W.i, .int .i64 W.next, W.t, W.s]
structure WdS (G : View) (lc : Ls → List Value) (W : Wv) (w : Wd) (rs : List Rn) : Prop where
  now : W.now = w.now
  ring : RngS G W.r rs
  rg : rgl rs = w.ring
  leases : SlR 3 (EF lc) G W.l w.leases
  items : ItS G W.i w.items
  next : W.next = w.scan.1
  told : IntS G W.t w.scan.2
  since : IntS G W.s w.since
theorem WdS.mono {G G' : View} {lc : Ls → List Value} {W : Wv} {w : Wd} {rs : List Rn} (h : WdS G lc W w rs) (hG : VLe G G') : WdS G' lc W w rs :=
  ⟨h.now, h.ring.mono hG, h.rg, EF.mono h.leases hG, h.items.mono hG, h.next, h.told.mono hG, h.since.mono hG⟩
theorem keys_len (xs : List It) : (keys xs).length = xs.length := by simp [keys]
theorem keys_snoc (xs : List It) (x : It) : keys (xs ++ [x]) = keys xs ++ [x.1] := by simp [keys]
section
variable {e w : World} {G : View} {L : Own} {P : Program} {n : Nat} {f : Sl} {dst : Option Nat} {ty : TypeId} {pos : String} {af : Array Edge} {g : Option (Nat × Bool)}
theorem lsP {T sz : Nat} {x : Operand} {b t o : Nat} {cs u : List Value} (hK : K e w G L) (h1 : AggC P T) (hs : (P.info? T).map (·.size) = some sz) (k : Nat) (hn : L[k]? = some (b, row cs t))
    (hp : ev n f x = .pointer (some ⟨b, o, none⟩)) (hl : u.length = sz) (hu : (cs.drop o).take u.length = u) : St P n ⟨dst, .load T x, ty, pos, af, g⟩ f w (.agg u.toArray) w :=
  lsC h1 hs hp hl fun j c hj => by
    rw [row_cell (hK.own _ _ (List.mem_of_getElem? hn))]
    have hlt := (List.getElem?_eq_some_iff.1 hj).1
    rw [← hu, List.getElem?_take, if_pos hlt, List.getElem?_drop] at hj
    exact hj
end
def idN (xs : List Int) (i : Nat) : Nd := (xs.getD i 0, xs.getD (((i : Int) + xs.length - 1) % xs.length).toNat 0, [xs.getD (((i : Int) + 1) % xs.length).toNat 0, xs.getD (((i : Int) + 2) % xs.length).toNat 0])
def idl (xs : List Int) : List Nd := (List.range xs.length).map (idN xs)
def idTo (xs : List Int) (i : Nat) : List Nd := (List.range i).map (idN xs)
theorem idTo_succ (xs : List Int) (i : Nat) : idTo xs (i + 1) = idTo xs i ++ [idN xs i] := by unfold idTo; rw [List.range_succ, List.map_append]; rfl
def NdsOk (xs : List Int) : Prop := (1 ≤ xs.length ∧ xs.length ≤ 10) ∧ Asc xs
theorem md {a n : Int} (h : 0 < n) : 0 ≤ a % n ∧ a % n < n := ⟨Int.emod_nonneg _ (by omega), Int.emod_lt_of_pos _ h⟩
theorem getD_of {xs : List Int} {i : Nat} (h : i < xs.length) : xs[i] = xs.getD i 0 := by rw [List.getD_eq_getElem?_getD, List.getElem?_eq_getElem h]; rfl
def newW (xs : List Int) : Wd := ⟨0, idl xs, xs.map (fun k => (k, k, 20)), [], (0, []), []⟩
def afl (xs : List Int) (i : Nat) : List Int := [xs.getD (((i : Int) + 1) % xs.length).toNat 0, xs.getD (((i : Int) + 2) % xs.length).toNat 0]
theorem afl_succ (xs : List Int) (i k : Nat) (h : k < 2) : (afl xs i).take k ++ [xs.getD (((i : Int) + ((k : Int) + 1)) % xs.length).toNat 0] = (afl xs i).take (k + 1) := by
  match k, h with
  | 0, _ => rfl
  | 1, _ => rfl
theorem nd_eq {x y : Rn} (h1 : x.1 = y.1) (h2 : x.2.1 = y.2.1) (h3 : x.2.2.2 = y.2.2.2) : nd x = nd y := by unfold nd; rw [h1, h2, h3]
section
variable {P : Program} {n : Nat} {f : Sl} {w : World} {dst : Option Tmp} {ty : TypeId} {pos : String} {af : Array Edge} {g : Option (Nat × Bool)}
theorem run_eq_s2 {S : Nat} {f0 f1 : Field} {a b a' b' : Int} (hS : P.underlying S = some (.struct #[f0, f1])) (h0 : P.underlying f0.type = some (.int .i64)) (h1 : P.underlying f1.type = some (.int .i64))
    (n0 : f0.name ≠ "_") (n1 : f1.name ≠ "_") (o0 : f0.offset = 0) (o1 : f1.offset = 1) (hst : P.stoodInHeld S = false) (w : World) (d : Nat) :
    (Op.equalIn (d + 2) S (.agg #[.int .i64 a, .int .i64 b]) (.agg #[.int .i64 a', .int .i64 b'])).run P w = .ok (decide (a = a' ∧ b = b')) w := by
  have q0 : OneC P f0.type := ⟨_, h0, rfl⟩
  have q1 : OneC P f1.type := ⟨_, h1, rfl⟩
  have p0 := fun (x y : Value) (w : World) => run_part_one (xs := #[x, y]) (v := x) q0 (o := 0) rfl w
  have p1 := fun (x y : Value) (w : World) => run_part_one (xs := #[x, y]) (v := y) q1 (o := 1) rfl w
  rw [Op.equalIn]
  simp only [Sem.run_bind, run_underlying hS, Result.andThen_ok, run_program, hst]
  simp [n0, n1, o0, o1, p0, p1, run_equalIn_int h0, run_equalIn_int h1]
  by_cases e0 : a = a' <;> by_cases e1 : b = b' <;> simp [e0, e1]
theorem neS2 {S T' : Nat} {x y : Operand} {f0 f1 : Field} {a b a' b' : Int} (hS : P.underlying S = some (.struct #[f0, f1])) (h0 : P.underlying f0.type = some (.int .i64)) (h1 : P.underlying f1.type = some (.int .i64))
    (n0 : f0.name ≠ "_") (n1 : f1.name ≠ "_") (o0 : f0.offset = 0) (o1 : f1.offset = 1) (hst : P.stoodInHeld S = false) (hg : P.eqGuardType P.depth S = false)
    (hx : ev n f x = .agg #[.int .i64 a, .int .i64 b]) (hy : ev n f y = .agg #[.int .i64 a', .int .i64 b']) :
    St P n ⟨dst, .binOp .neq S x y T', ty, pos, af, g⟩ f w (.bool (decide (¬ (a = a' ∧ b = b')))) w := by
  have h := fun w => run_eq_s2 (P := P) (a := a) (b := b) (a' := a') (b' := b') hS h0 h1 n0 n1 o0 o1 hst w 9998
  have h' : ∀ w, (Op.equal S (.agg #[.int .i64 a, .int .i64 b]) (.agg #[.int .i64 a', .int .i64 b'])).run P w = .ok (decide (a = a' ∧ b = b')) w := h
  have hgd : (eqGuard .neq S x y (.agg #[.int .i64 a, .int .i64 b]) (.agg #[.int .i64 a', .int .i64 b'])).run P w = .ok () w := by
    unfold eqGuard
    simp [hg]
  unfold St execOp
  simp only [hx, hy, binOp, Sem.run_bind, hgd, h', Result.andThen_ok, Sem.run_pure]
  by_cases hh : a = a' ∧ b = b' <;> simp [hh]
end
theorem wd_eq {a b : Wd} (h1 : a.now = b.now) (h2 : a.ring = b.ring) (h3 : a.leases = b.leases) (h4 : a.items = b.items) (h5 : a.scan = b.scan) (h6 : a.since = b.since) : a = b := by
  cases a; cases b; simp_all
def nxt (xs : List Int) (k : Int) : Int := (xs.find? (fun x => decide (x ≥ k))).getD (xs.getD 0 0)
theorem SlR.lit0 {α : Type} {sz : Nat} {E : View → List Value → α → Prop} {G : View} {p : Option Addr} : SlR sz E G (.slice p 0 0) [] := ⟨⟨p, 0, rfl, Nat.le_refl _, Nat.zero_le _, .inl rfl⟩, fun i x h => by simp at h⟩
theorem WdS.zero {G : View} {lc : Ls → List Value} : WdS G lc ⟨0, .slice none 0 0, .slice none 0 0, .slice none 0 0, 0, .slice none 0 0, .slice none 0 0⟩ wdZ [] :=
  ⟨rfl, RngS.lit, rfl, SlR.lit0, SlR.lit0, rfl, SlR.lit0, SlR.lit0⟩
theorem ids_idl (xs : List Int) : ids (idl xs) = xs := by
  unfold ids idl
  rw [List.map_map]
  apply List.ext_getElem
  · simp
  · intro i h1 h2
    simp only [List.getElem_map, List.getElem_range, Function.comp]
    unfold idN
    exact (getD_of h2).symm
theorem pigeon (f : Nat → Int) : ∀ (n : Nat) (xs : List Int), xs.length = n → (∀ i j, i ≤ n → j ≤ n → f i = f j → i = j) → ∃ d, d ≤ n ∧ f d ∉ xs
  | 0, xs, h, _ => ⟨0, Nat.le_refl _, by rw [List.eq_nil_of_length_eq_zero h]; simp⟩
  | n + 1, xs, h, hf => by
    by_cases hm : f (n + 1) ∈ xs
    · obtain ⟨d, hd, hn⟩ := pigeon f n (xs.erase (f (n + 1))) (by rw [List.length_erase_of_mem hm]; omega) (fun i j hi hj => hf i j (by omega) (by omega))
      refine ⟨d, by omega, fun hx => hn ?_⟩
      exact (List.mem_erase_of_ne fun he => by have := hf d (n + 1) (by omega) (Nat.le_refl _) he; omega).2 hx
    · exact ⟨n + 1, Nat.le_refl _, hm⟩
theorem freeAt {xs : List Int} (h : xs.length < 64) (p : Int) : ∃ d : Nat, (p + d) % 64 ∉ xs := by
  obtain ⟨d, _, hd⟩ := pigeon (fun d => (p + (d : Nat)) % 64) xs.length xs rfl (fun i j hi hj he => by have he' : (p + (i : Int)) % 64 = (p + (j : Int)) % 64 := he; omega)
  exact ⟨d, hd⟩
theorem Asc.ins {xs : List Int} (h : Asc xs) {p : Int} {k : Nat} (hp : Pt p) (_ : k ≤ xs.length) (h1 : ∀ x ∈ xs.take k, x < p) (h2 : ∀ hk : k < xs.length, ¬ xs[k] < p) (hn : p ∉ xs) : Asc (xs.take k ++ p :: xs.drop k) := by
  refine ⟨fun x hx => ?_, ?_⟩
  · rcases List.mem_append.1 hx with hx | hx
    · exact h.1 x (List.mem_of_mem_take hx)
    · rcases List.mem_cons.1 hx with rfl | hx
      · exact hp
      · exact h.1 x (List.mem_of_mem_drop hx)
  · have h0 := h.2
    rw [← List.take_append_drop k xs, List.pairwise_append] at h0
    rw [List.pairwise_append, List.pairwise_cons]
    have hd : ∀ x ∈ xs.drop k, p < x := fun x hx => by
      rcases Nat.lt_or_ge k xs.length with hlt | hge
      · rw [List.drop_eq_getElem_cons hlt] at hx
        have h3 := h2 hlt
        have hne : p ≠ xs[k] := fun e => hn (e ▸ List.getElem_mem hlt)
        rcases List.mem_cons.1 hx with rfl | hx
        · omega
        · have h4 := h0.2.1
          rw [List.drop_eq_getElem_cons hlt, List.pairwise_cons] at h4
          have := h4.1 x hx
          simp only [id] at this; omega
      · rw [List.drop_eq_nil_of_le hge] at hx; cases hx
    refine ⟨h0.1, ⟨fun x hx => hd x hx, h0.2.1⟩, fun x hx y hy => ?_⟩
    rcases List.mem_cons.1 hy with rfl | hy
    · exact h1 x hx
    · exact h0.2.2 x hx y hy
theorem Asc.mono {xs : List Int} (h : Asc xs) {i j : Nat} (hi : i < xs.length) (hj : j < xs.length) : xs[i] < xs[j] ↔ i < j := by
  have hp := List.pairwise_iff_getElem.1 h.2
  constructor
  · intro hl
    rcases Nat.lt_trichotomy i j with h1 | h1 | h1
    · exact h1
    · subst h1; omega
    · have := hp j i hj hi h1; simp only [id] at this; omega
  · intro hl
    exact hp i j hi hj hl
theorem Asc.next {xs : List Int} (h : Asc xs) (h3 : 3 ≤ xs.length) {i : Nat} (hi : i < xs.length) {k : Int} (hk : k ∈ xs) : btw xs[i] k (xs[(i + 1) % xs.length]'(Nat.mod_lt _ (by omega))) = false := by
  obtain ⟨j, hj, rfl⟩ := List.getElem_of_mem hk
  have hm := Nat.mod_lt (i + 1) (show xs.length > 0 by omega)
  have h1 := h.mono hi hj
  have h2 := h.mono hj hm
  have h4 := h.mono hi hm
  rcases Nat.lt_or_ge (i + 1) xs.length with hc | hc
  · have e : (i + 1) % xs.length = i + 1 := Nat.mod_eq_of_lt hc
    have : i < (i + 1) % xs.length := by omega
    unfold btw
    rw [if_pos (h4.2 this)]
    refine decide_eq_false ?_
    rintro ⟨g1, g2⟩
    have := h1.1 g1
    have := h2.1 g2
    omega
  · have e : (i + 1) % xs.length = 0 := by rw [show i + 1 = xs.length by omega]; exact Nat.mod_self _
    unfold btw
    rw [if_neg (fun g => by have := h4.1 g; omega)]
    refine decide_eq_false ?_
    rintro (g | g)
    · have := h1.1 g; omega
    · have := h2.1 g; omega
theorem idx_mod (a n : Nat) : ((a : Int) % (n : Int)).toNat = a % n := rfl
theorem idN_eq {xs : List Int} (h3 : 3 ≤ xs.length) {i : Nat} (hi : i < xs.length) :
    idN xs i = (xs[i], xs[(i + xs.length - 1) % xs.length]'(Nat.mod_lt _ (by omega)), [xs[(i + 1) % xs.length]'(Nat.mod_lt _ (by omega)), xs[((i + 1) % xs.length + 1) % xs.length]'(Nat.mod_lt _ (by omega))]) := by
  have e1 : (((i : Int) + xs.length - 1) % xs.length).toNat = (i + xs.length - 1) % xs.length := by
    rw [show ((i : Int) + xs.length - 1) = ((i + xs.length - 1 : Nat) : Int) by omega]; rfl
  have e3 : (((i : Int) + 2) % xs.length).toNat = ((i + 1) % xs.length + 1) % xs.length := by
    rw [show ((i : Int) + 2) = ((i + 2 : Nat) : Int) by omega, idx_mod, Nat.mod_add_mod]
  have e2 : (((i : Int) + 1) % xs.length).toNat = (i + 1) % xs.length := rfl
  unfold idN
  rw [e1, e2, e3, ← getD_of hi, ← getD_of (Nat.mod_lt _ (by omega)), ← getD_of (Nat.mod_lt _ (by omega)), ← getD_of (Nat.mod_lt _ (by omega))]
theorem mem_idl {xs : List Int} {x : Nd} (h : x ∈ idl xs) : ∃ i, i < xs.length ∧ x = idN xs i := by
  obtain ⟨i, hi, rfl⟩ := List.mem_map.1 h
  exact ⟨i, List.mem_range.1 hi, rfl⟩
theorem idl_ok {xs : List Int} (h : NdsOk xs) (h3 : 3 ≤ xs.length) : RgOk (idl xs) := by
  refine ⟨by have := h.1.2; simp [idl]; omega, fun x hx => ?_, ?_⟩
  · obtain ⟨i, hi, rfl⟩ := mem_idl hx
    rw [idN_eq h3 hi]
    refine ⟨h.2.pt _, .inr (h.2.pt _), rfl, fun k hk => ?_⟩
    simp only [List.mem_cons, List.not_mem_nil, or_false] at hk
    rcases hk with rfl | rfl
    · exact h.2.pt _
    · exact h.2.pt _
  · have := h.2.2
    rw [← ids_idl xs] at this
    exact List.pairwise_map.1 this
theorem idl_skn {xs : List Int} (h : NdsOk xs) (h3 : 3 ≤ xs.length) {x : Nd} (hx : x ∈ idl xs) {k : Int} (hk : k ∈ xs) : skn x k = false := by
  obtain ⟨i, hi, rfl⟩ := mem_idl hx
  rw [idN_eq h3 hi, skn2 rfl]
  have hm := Nat.mod_lt (i + 1) (show xs.length > 0 by omega)
  have h1 := h.2.next h3 hi hk
  have h2 := h.2.next h3 hm hk
  show (btw _ _ (xs[(i + 1) % xs.length]) || btw (xs[(i + 1) % xs.length]) k (xs[((i + 1) % xs.length + 1) % xs.length]'(Nat.mod_lt _ (by omega)))) = false
  rw [h1, h2]; rfl
theorem idl_safe {xs : List Int} (h : NdsOk xs) (h3 : 3 ≤ xs.length) : RgSafe (idl xs) := by
  refine ⟨idl_ok h h3, fun x hx => ?_, ?_⟩
  · obtain ⟨i, hi, rfl⟩ := mem_idl hx
    rw [idN_eq h3 hi, ids_idl]
    exact ⟨_, List.mem_cons_self .., List.getElem_mem _⟩
  · have : prin (idl xs) = xs := by
      unfold prin
      rw [ids_idl, List.filter_eq_self]
      intro k hk
      rw [Bool.not_eq_true', List.any_eq_false]
      intro x hx
      rw [idl_skn h h3 hx hk]; simp
    rw [this]; exact h3
theorem newLs_ok {xs : List Int} (h : NdsOk xs) {t : Int} (ht : Tm t) : LsOk (xs.map fun k => (k, k, t)) := by
  refine ⟨by have := h.1; simp; omega, fun x hx => ?_, List.pairwise_map.2 h.2.2⟩
  obtain ⟨k, hk, rfl⟩ := List.mem_map.1 hx
  exact ⟨h.2.1 k hk, h.2.1 k hk, ht⟩
theorem newW_ok {xs : List Int} (h : NdsOk xs) (h3 : 3 ≤ xs.length) : WdOk (newW xs) :=
  ⟨(show Tm 0 from ⟨by decide, by decide⟩), idl_safe h h3, newLs_ok h ⟨by decide, by decide⟩, ⟨(fun _ hx => by cases hx), Asc.nil⟩, SnOk.zero, Asc.nil, (fun _ hk => by cases hk)⟩
def handL (ls : List Ls) (fr at' to un : Int) : Option (List Ls) :=
  if (lsAt ls at').2.1 ≠ fr then none
  else if (lsAt ls at').1 = at' then some (ls.set (lAt ls at') (at', to, un))
  else if 12 ≤ ls.length then none
  else some (ls.takeWhile (fun x => decide (x.1 < at')) ++ (at', to, un) :: ls.dropWhile (fun x => decide (x.1 < at')))
def takeL (ls : List Ls) (key to now un : Int) : Option (List Ls) :=
  if now ≤ (lsAt ls key).2.2 then none else some (ls.set (lAt ls key) ((lsAt ls key).1, to, un))
def rnw (ow now un : Int) (x : Ls) : Bool := decide (x.2.1 = ow ∧ now ≤ x.2.2 ∧ x.2.2 < un)
def rn1 (ow now un : Int) (x : Ls) : Ls := if rnw ow now un x then (x.1, x.2.1, un) else x
def renewL (ls : List Ls) (ow now un : Int) : List Ls := ls.map (rn1 ow now un)
def renewN (ls : List Ls) (ow now un : Int) : Nat := ls.countP (rnw ow now un)
noncomputable def tkL (ls : List Ls) (ok : Prop) (o : Option (List Ls)) : List Ls × Bool :=
  if dec (LsOk ls ∧ ok) = true then (match o with | some x => (x, true) | none => (ls, false)) else ([], false)
theorem tkL_no {r : List Ls} {ok : Prop} {o : Option (List Ls)} (h : ¬ (LsOk r ∧ ok)) : tkL r ok o = ([], false) := by
  unfold tkL; rw [if_neg (by rw [dec_f h]; simp)]
theorem tkL_none {r : List Ls} {ok : Prop} {o : Option (List Ls)} (h : LsOk r ∧ ok) (ho : o = none) : tkL r ok o = (r, false) := by
  unfold tkL; rw [if_pos (dec_t h), ho]
theorem tkL_some {r x : List Ls} {ok : Prop} {o : Option (List Ls)} (h : LsOk r ∧ ok) (ho : o = some x) : tkL r ok o = (x, true) := by
  unfold tkL; rw [if_pos (dec_t h), ho]
def LsA (lc : Ls → List Value) (G : View) (r : Value) (o : List Ls × Bool) : Prop := ∃ v, r = .tuple #[v, .bool o.2] ∧ SlR 3 (EF lc) G v o.1
theorem LsA.mk {lc : Ls → List Value} {G : View} {v : Value} {b : Bool} {x : List Ls} {o : List Ls × Bool} (ho : o = (x, b)) (h : SlR 3 (EF lc) G v x) : LsA lc G (.tuple #[v, .bool b]) o := by
  subst ho; exact ⟨v, rfl, h⟩
theorem handL_1 {ls : List Ls} {fr at' to un : Int} (h : (lsAt ls at').2.1 ≠ fr) : handL ls fr at' to un = none := if_pos h
theorem handL_2 {ls : List Ls} {fr at' to un : Int} (h : (lsAt ls at').2.1 = fr) (h2 : (lsAt ls at').1 = at') : handL ls fr at' to un = some (ls.set (lAt ls at') (at', to, un)) := by
  unfold handL; rw [if_neg (by simpa using h), if_pos h2]
theorem handL_3 {ls : List Ls} {fr at' to un : Int} (h : (lsAt ls at').2.1 = fr) (h2 : (lsAt ls at').1 ≠ at') (h3 : 12 ≤ ls.length) : handL ls fr at' to un = none := by
  unfold handL; rw [if_neg (by simpa using h), if_neg h2, if_pos h3]
theorem handL_4 {ls : List Ls} {fr at' to un : Int} (h : (lsAt ls at').2.1 = fr) (h2 : (lsAt ls at').1 ≠ at') (h3 : ¬ 12 ≤ ls.length) :
    handL ls fr at' to un = some (ls.takeWhile (fun x => decide (x.1 < at')) ++ (at', to, un) :: ls.dropWhile (fun x => decide (x.1 < at'))) := by
  unfold handL; rw [if_neg (by simpa using h), if_neg h2, if_neg h3]
theorem tw_gen {α : Type} {p : α → Bool} {xs : List α} {m : Nat} (hlt : ∀ x ∈ xs.take m, p x = true) (hge : ∀ h : m < xs.length, p xs[m] = false) : xs.takeWhile p = xs.take m ∧ xs.dropWhile p = xs.drop m := by
  have h2 : (xs.drop m).takeWhile p = [] ∧ (xs.drop m).dropWhile p = xs.drop m := by
    rcases Nat.lt_or_ge m xs.length with h | h
    · rw [List.drop_eq_getElem_cons h, List.takeWhile_cons_of_neg (by rw [hge h]; simp), List.dropWhile_cons_of_neg (by rw [hge h]; simp)]; exact ⟨rfl, rfl⟩
    · rw [List.drop_eq_nil_of_le h]; exact ⟨rfl, rfl⟩
  constructor
  · conv => lhs; rw [← List.take_append_drop m xs]
    rw [List.takeWhile_append_of_pos hlt, h2.1, List.append_nil]
  · conv => lhs; rw [← List.take_append_drop m xs]
    rw [List.dropWhile_append_of_pos hlt, h2.2]
theorem rn_step {ls : List Ls} {ow now un : Int} {i : Nat} (hi : i < ls.length) : ((ls.take i).map (rn1 ow now un) ++ ls.drop i).set i (rn1 ow now un ls[i]) = (ls.take (i + 1)).map (rn1 ow now un) ++ ls.drop (i + 1) := by
  have hl : ((ls.take i).map (rn1 ow now un)).length = i := by simp; omega
  rw [List.set_append_right _ _ (by omega), hl, Nat.sub_self, List.drop_eq_getElem_cons hi, List.set_cons_zero, List.take_succ_eq_append_getElem hi, List.map_append, List.append_assoc]; rfl
theorem rn_get {ls : List Ls} {ow now un : Int} {i : Nat} (hi : i < ls.length) : ((ls.take i).map (rn1 ow now un) ++ ls.drop i)[i]? = some ls[i] := by
  have hl : ((ls.take i).map (rn1 ow now un)).length = i := by simp; omega
  rw [List.getElem?_append_right (by omega), hl, Nat.sub_self, List.getElem?_drop, Nat.add_zero, List.getElem?_eq_getElem hi]
theorem OS.fcell {α : Type} {c : α → List Value} {sz : Nat} {t : Nat} {v : Value} {m : Nat} {zs : List α} {A : Own} (hc : ∀ x, (c x).length = sz) (h : OS sz t v m (zs.flatMap c) A) {e w : World} {G : View} {L : Own} (hK : K e w G (A ++ L)) {i j : Nat} {x : α} {u : Value}
    (hz : zs[i]? = some x) (hj : (c x)[j]? = some u) : w.cell? (elA v (i * sz + j)) = some u :=
  h.cell hK (by rw [flat_get' hc zs i j x hz (by have := (List.getElem?_eq_some_iff.1 hj).1; rw [hc] at this; exact this)]; exact hj)
theorem rn_count {ls : List Ls} {ow now un : Int} {i : Nat} (hi : i < ls.length) : (ls.take (i + 1)).countP (rnw ow now un) = (ls.take i).countP (rnw ow now un) + (if rnw ow now un ls[i] then 1 else 0) := by
  rw [List.take_succ_eq_append_getElem hi, List.countP_append, List.countP_singleton]
theorem renew_none {ls : List Ls} {ow now un : Int} (h : renewN ls ow now un = 0) : renewL ls ow now un = ls := by
  unfold renewL
  unfold renewN at h
  rw [List.countP_eq_zero] at h
  conv => rhs; rw [← List.map_id ls]
  refine List.map_congr_left fun x hx => ?_
  unfold rn1
  rw [if_neg (h x hx)]; rfl
theorem rn_same {ls : List Ls} {ow now un : Int} {i : Nat} (hi : i < ls.length) : ((ls.take i).map (rn1 ow now un) ++ ls.drop i).set i ls[i] = (ls.take i).map (rn1 ow now un) ++ ls.drop i := by
  have h := rn_get (ow := ow) (now := now) (un := un) hi
  obtain ⟨h1, h2⟩ := List.getElem?_eq_some_iff.1 h
  conv => lhs; rw [← h2]
  exact List.set_getElem_self _
def scW (w : Wd) : Wd := if w.scan.1 < 64 ∧ 0 ≤ own w w.scan.1 then { w with scan := stp w.leases (keys w.items) w.scan } else w
noncomputable def rgO (r : List Nd) (kd a b : Int) : List Nd × Bool :=
  if kd = 1 then tk r (Pt a ∧ Pt b) (joinR r a b) else if kd = 2 then tk r (Pt a) (failR r a) else if kd = 3 then tk r (Pt a) (dropR r a)
  else if kd = 4 then tk r (Pt a) (adoptR r a) else if kd = 5 then tk r (Pt a ∧ Pt b) (closerR r a b) else if kd = 6 then tk r (Pt a ∧ Pt b) (notifyR r a b) else (r, false)
noncomputable def rgW (w : Wd) (kd a b : Int) : Wd := if (rgO w.ring kd a b).2 = true then { w with ring := (rgO w.ring kd a b).1 } else w
def utl (n : Int) : Int := min (n + 20) 999
noncomputable def leO (w : Wd) (kd a b c : Int) : List Ls × Bool :=
  if a ∉ ids w.ring then (w.leases, false)
  else if kd = 7 then (if c ∈ ids w.ring ∧ Pt b ∧ own w b = a then tkL w.leases (Pt a ∧ Pt b ∧ Pt c ∧ Tm (utl w.now)) (handL w.leases a b c (utl w.now)) else (w.leases, false))
  else if kd = 8 then tkL w.leases (Pt b ∧ Pt a ∧ Tm w.now ∧ Tm (utl w.now)) (takeL w.leases b a w.now (utl w.now))
  else if kd = 9 then (if Pt a then (renewL w.leases a w.now (utl w.now), true) else (w.leases, false)) else (w.leases, false)
noncomputable def leW (w : Wd) (kd a b c : Int) : Wd := if (leO w kd a b c).2 = true then { w with leases := (leO w kd a b c).1 } else w
theorem leW_no {w : Wd} {kd a b c : Int} {x : List Ls} (h : leO w kd a b c = (x, false)) : leW w kd a b c = w := if_neg (by rw [h]; simp)
theorem leW_yes {w : Wd} {kd a b c : Int} {x : List Ls} (h : leO w kd a b c = (x, true)) : leW w kd a b c = { w with leases := x } := by
  unfold leW; rw [h]; rfl
theorem leW_T {w : Wd} {kd a b c : Int} {o : List Ls × Bool} (h : leO w kd a b c = o) : (o.2 = true → { w with leases := o.1 } = leW w kd a b c) ∧ (o.2 = false → w = leW w kd a b c) := by
  unfold leW; rw [h]
  exact ⟨fun h => (if_pos h).symm, fun h => (if_neg (by rw [h]; simp)).symm⟩
theorem utl_tm {n : Int} (h : Tm n) : Tm (utl n) := by unfold utl; exact ⟨by have := h.1; omega, by omega⟩
def itf (b c : Int) : Bool → List It → List It
  | p, [] => if p then [] else [(b, c)]
  | p, x :: xs => (if p = false ∧ b ≤ x.1 then [(b, c)] else []) ++ ((if x.1 ≠ b then [x] else []) ++ itf b c (p || decide (b ≤ x.1)) xs)
theorem itf_at {b c : Int} {p : Bool} {xs : List It} {i : Nat} (hi : i < xs.length) :
    itf b c p (xs.drop i) = (if p = false ∧ b ≤ xs[i].1 then [(b, c)] else []) ++ ((if xs[i].1 ≠ b then [xs[i]] else []) ++ itf b c (p || decide (b ≤ xs[i].1)) (xs.drop (i + 1))) := by
  rw [List.drop_eq_getElem_cons hi]; rfl
noncomputable def itW (w : Wd) (kd a b c : Int) : Wd :=
  if Pt b ∧ own w b = a ∧ 0 ≤ a ∧ (kd = 11 → 0 ≤ c ∧ c ≤ 99) then { w with items := itf b c (decide (kd = 12)) w.items, since := if kd = 12 then w.since.filter (fun x => decide (x ≠ b)) else w.since } else w
noncomputable def doW (w : Wd) (kd a b c : Int) : Wd :=
  if kd = 7 ∨ kd = 8 ∨ kd = 9 then leW w kd a b c else if kd = 10 then { w with now := min (w.now + 1) 999 } else if kd = 11 ∨ kd = 12 then itW w kd a b c
  else if kd = 13 then { w with scan := (0, []), since := keys w.items } else if kd = 14 then scW w else rgW w kd a b
structure WdA (w : Wd) : Prop where
  now : Tm w.now
  ls : LsOk w.leases
  it : ItOk w.items
  sc : SnOk w.scan
  si : Asc w.since
theorem WdOk.wda {w : Wd} (h : WdOk w) : WdA w := ⟨h.1, h.2.2.1, h.2.2.2.1, h.2.2.2.2.1, h.2.2.2.2.2.1⟩
theorem WdA.zl {w : Wd} (h : WdA w) : w.items.length ≤ 64 := by have := h.it.2.len; rwa [keys_len] at this
theorem rgW_no {w : Wd} {kd a b : Int} (h : ¬ (1 ≤ kd ∧ kd ≤ 6)) : rgW w kd a b = w := by
  unfold rgW rgO
  rw [if_neg (show ¬ kd = 1 by omega), if_neg (show ¬ kd = 2 by omega), if_neg (show ¬ kd = 3 by omega), if_neg (show ¬ kd = 4 by omega), if_neg (show ¬ kd = 5 by omega), if_neg (show ¬ kd = 6 by omega)]
  exact if_neg (by simp)
end Go.Ro
