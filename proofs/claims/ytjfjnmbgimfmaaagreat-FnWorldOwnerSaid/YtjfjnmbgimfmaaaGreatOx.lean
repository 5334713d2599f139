/- Slices of the walk's own, or empty ones without room; worlds whose items are the walk's own. Conditions: those that each row states. -/
import Derived.Test.YtjfjnmbgimfmaaaGreatAo
namespace Go.Ro
open Go

/-- the walk's own, or empty without room -/
def OSx (sz : Nat) (t : TypeId) (v : Value) (m : Nat) (cs : List Value) (A : Own) : Prop :=
  OS sz t v m cs A ∨ (m = 0 ∧ A = [] ∧ cs = [] ∧ ∃ b : Nat, v = .slice (some ⟨b, 0, none⟩) 0 0)
theorem ints_flat (xs : List Int) : ints xs = xs.flatMap fun n => [.int .i64 n] := by
  induction xs with
  | nil => rfl
  | cons x xs ih => rw [List.flatMap_cons, ← ih]; rfl
section
variable {sz m : Nat} {t : TypeId} {v : Value} {cs : List Value} {A : Own}
theorem OSx.slw (h : OSx sz t v m cs A) : SlW v m := by
  rcases h with h | ⟨rfl, _, _, b, rfl⟩
  · exact h.slw
  · exact ⟨_, _, rfl, Nat.le_refl _, Nat.zero_le _, .inr ⟨_, _, rfl⟩⟩
theorem OSx.one (h : OSx sz t v m cs A) : one v = true := h.slw.one
theorem OSx.pub {α : Type} {c : α → List Value} {xs : List α} {e w : World} {G : View} {L : Own} (hc : ∀ x, (c x).length = sz) (hK : K e w G (A ++ L)) (ho : OSx sz t v xs.length (xs.flatMap c) A) :
    ∃ G', VLe G G' ∧ SlR sz (EF c) G' v xs ∧ K e w G' L := by
  rcases ho with ho | ⟨h0, rfl, _, b, rfl⟩
  · exact K.pubE hc hK ho
  · obtain rfl := List.eq_nil_of_length_eq_zero h0
    exact ⟨G, VLe.refl _, SlR.lit0, hK⟩
end
section
variable {P : Program} {n : Nat} {Q : Po} {f : Sl} {w e : World} {G : View} {L A : Own} {ops : Array Oper} {rest : List Oper} {d : Nat} {pos : String} {af : Array Edge}
/-- append to an empty slice without room: what it makes stays the walk's own -/
theorem ap0o {α : Type} {c : α → List Value} {T E' ty' by' sz bb : Nat} {z : Value} {u : Value} {x y : Operand} {ys : List α} (hc : ∀ x, (c x).length = sz) (hsz : Nat.ble 1 sz = true) (hK : K e w G L) (hT : P.underlying T = some (.slice E')) (hi : Inf P E' z sz by') (hz : z.cells.size = sz) (hby : Nat.ble by' 1000 = true)
    (hx : ev n f x = .slice (some ⟨bb, 0, none⟩) 0 0) (hy : ev n f y = u) (hu : SlR sz (EF c) G u ys) (hmk : ys.length ≤ 1000000000)
    (h : ∀ v' A' w1, OSx sz E' v' ys.length (ys.flatMap c) A' → K e w1 G (A' ++ L) → WL P n ops Q rest (upd f d v') w1) :
    WL P n ops Q (⟨some d, .call ⟨.builtin .append, #[x, y], #[T, T]⟩, ty', pos, af, none⟩ :: rest) f w := by
  obtain ⟨b2, c2, rfl, _, _, hb2⟩ := hu.1
  obtain ⟨v', A', w1, hr, h2, h3⟩ := run_append0 (P := P) (ty' := ty') (bb := bb) (news := ys.flatMap c) hK hT hi hz (flat_len hc ys) hb2 (fun _ _ hj => hK.cell (hu.cells hc (Nat.le_of_ble_eq_true hsz) hj)) hmk (Nat.le_of_ble_eq_true hby)
  have ho : OSx sz E' v' ys.length (ys.flatMap c) A' := by
    rcases h3 with ⟨h4, rfl, rfl⟩ | h3
    · have : ys = [] := List.eq_nil_of_length_eq_zero h4
      subst this
      exact .inr ⟨rfl, rfl, rfl, _, rfl⟩
    · exact .inl h3
  refine vl ?_ (h v' A' w1 ho h2)
  unfold St execOp
  simp only [resolve, Sem.run_bind, Sem.run_pure, Result.andThen_ok, invoke, builtin, List.map_toArray, List.map_cons, List.map_nil, hx, hy, hr]
/-- one element more -/
theorem apE1x {α : Type} {c : α → List Value} {T E' E2 ty' b2 by' sz : Nat} {z : Value} {v : Value} {x y : Operand} {xs : List α} {k : α} (hc : ∀ x, (c x).length = sz) (hone : (c k).all one = true) (hK : K e w G ((b2, row (c k) E2) :: (A ++ L))) (hT : P.underlying T = some (.slice E')) (hi : Inf P E' z sz by') (hz : z.cells.size = sz) (hby : Nat.ble by' 1000 = true)
    (hx : ev n f x = v) (ho : OSx sz E' v xs.length (xs.flatMap c) A) (hy : ev n f y = .slice (some ⟨b2, 0, none⟩) 1 1) (hmk : xs.length + 1 ≤ 1000000000)
    (h : ∀ v' A' w1, OS sz E' v' (xs ++ [k]).length ((xs ++ [k]).flatMap c) A' → K e w1 G (A' ++ L) → WL P n ops Q rest (upd f d v') w1) :
    WL P n ops Q (⟨some d, .call ⟨.builtin .append, #[x, y], #[T, T]⟩, ty', pos, af, none⟩ :: rest) f w := by
  rcases ho with ho | ⟨h0, rfl, _, b, rfl⟩
  · exact apE1 hc hone hK hT hi hz hby hx ho hy hmk h
  · obtain rfl := List.eq_nil_of_length_eq_zero h0
    have hb := hK.own b2 _ (List.mem_cons_self ..)
    obtain ⟨v', A', w1, hr, h2, h3⟩ := run_append0 (P := P) (ty' := ty') (bb := b) (news := c k) (k := 1) (b2 := some ⟨b2, 0, none⟩) (c2 := 1) hK hT hi hz (by rw [hc, Nat.one_mul]) (.inr ⟨_, _, rfl⟩) (fun j u hj => by simp only [elA, Nat.zero_add]; rw [row_cell hb]; exact hj) (by omega) (Nat.le_of_ble_eq_true hby)
    rcases h3 with ⟨h4, _⟩ | h3
    · cases h4
    · refine vl ?_ (h v' A' w1 (by simpa using h3) (K.drop1 (K.back1 h2)))
      unfold St execOp
      simp only [resolve, Sem.run_bind, Sem.run_pure, Result.andThen_ok, invoke, builtin, List.map_toArray, List.map_cons, List.map_nil, hx, hy, hr]
end
/-- a world whose items, and keys since the scan began, are the walk's own -/
structure WdO (G : View) (lc : Ls → List Value) (tI tS : TypeId) (W : Wv) (w : Wd) (rs : List Rn) (AI AS : Own) : Prop where
  now : W.now = w.now
  ring : RngS G W.r rs
  rg : rgl rs = w.ring
  leases : SlR 3 (EF lc) G W.l w.leases
  items : OSx 2 tI W.i w.items.length (w.items.flatMap ic) AI
  next : W.next = w.scan.1
  told : IntS G W.t w.scan.2
  since : OSx 1 tS W.s w.since.length (w.since.flatMap fun n => [.int .i64 n]) AS
section
variable {G G' : View} {lc : Ls → List Value} {tI tS : TypeId} {W : Wv} {wd : Wd} {rs : List Rn} {AI AS L : Own} {e w : World}
theorem WdO.mono (h : WdO G lc tI tS W wd rs AI AS) (hG : VLe G G') : WdO G' lc tI tS W wd rs AI AS :=
  ⟨h.now, h.ring.mono hG, h.rg, EF.mono h.leases hG, h.items, h.next, h.told.mono hG, h.since⟩
theorem WdO.one (h : WdO G lc tI tS W wd rs AI AS) : (wc W).all Ro.one = true :=
  allc rfl (allc h.ring.sl.1.one (allc h.leases.1.one (allc h.items.one (allc rfl (allc h.told.1.one (allc h.since.one rfl))))))
theorem WdO.pub (h : WdO G lc tI tS W wd rs AI AS) (hK : K e w G (AI ++ (AS ++ L))) : ∃ G', VLe G G' ∧ WdS G' lc W wd rs ∧ K e w G' L := by
  obtain ⟨G1, g1, h1, hK⟩ := OSx.pub (c := ic) (fun _ => rfl) hK h.items
  obtain ⟨G2, g2, h2, hK⟩ := OSx.pub (c := fun n => [.int .i64 n]) (fun _ => rfl) hK h.since
  exact ⟨G2, g1.trans g2, ⟨h.now, h.ring.mono (g1.trans g2), h.rg, EF.mono h.leases (g1.trans g2), EF.mono h1 g2, h.next, h.told.mono (g1.trans g2), h2⟩, hK⟩
theorem WdO.pubB (h : WdO G lc tI tS W wd rs AI AS) {B : Own} (hK : K e w G (B ++ (AI ++ (AS ++ L)))) : ∃ G', VLe G G' ∧ WdS G' lc W wd rs ∧ K e w G' (B ++ L) := by
  obtain ⟨G1, g1, h1, hK⟩ := OSx.pub (c := ic) (fun _ => rfl) (K.mid (A := B) (B := AI) hK) h.items
  obtain ⟨G2, g2, h2, hK⟩ := OSx.pub (c := fun n => [.int .i64 n]) (fun _ => rfl) (K.mid (A := B) (B := AS) hK) h.since
  exact ⟨G2, g1.trans g2, ⟨h.now, h.ring.mono (g1.trans g2), h.rg, EF.mono h.leases (g1.trans g2), EF.mono h1 g2, h.next, h.told.mono (g1.trans g2), h2⟩, hK⟩
end
section
variable {P : Program} {n : Nat} {Q : Po} {f : Sl} {w : World} {ops : Array Oper} {S : World → Prop} {k : Nat} {l l' : List Bool}
/-- three that can come -/
theorem xe3 {i j m : Nat} {o u t : Oper} {l2 l3 : List Bool} (hr : Region.ready .any ops l.toArray = [i, j, m]) (hi : ops[i]? = some o) (hj : ops[j]? = some u) (hm : ops[m]? = some t) (hl : l.set i true = l') (hl2 : l.set j true = l2) (hl3 : l.set m true = l3)
    (h : WL P n ops (Xp P n ops S Q k l') [o] f w) (h2 : WL P n ops (Xp P n ops S Q k l2) [u] f w) (h3 : WL P n ops (Xp P n ops S Q k l3) [t] f w) : WX P n ops S Q (k + 1) l f w := by
  refine wpAnyH_all hr (by simp) ?_
  intro a ha
  rcases List.mem_cons.1 ha with rfl | ha
  · exact xop hi hl h
  rcases List.mem_cons.1 ha with rfl | ha
  · exact xop hj hl2 h2
  · obtain rfl := List.mem_singleton.1 ha
    exact xop hm hl3 h3
end
end Go.Ro
