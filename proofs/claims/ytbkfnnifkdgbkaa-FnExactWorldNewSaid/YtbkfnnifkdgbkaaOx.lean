/- Slices of the walk's own, or empty ones without room; worlds whose items are the walk's own. Conditions: those that each row states. -/
import Derived.Test.YtbkfnnifkdgbkaaAo
namespace Go.Ro
open Go

/-- the walk's own, or empty without room -/
def OSx (sz : Nat) (t : TypeId) (v : Value) (m : Nat) (cs : List Value) (A : Own) : Prop :=
  OS sz t v m cs A ∨ (m = 0 ∧ A = [] ∧ cs = [] ∧ ∃ b : Nat, v = .slice (some ⟨b, 0, none⟩) 0 0)
section
variable {sz m : Nat} {t : TypeId} {v : Value} {cs : List Value} {A : Own}
theorem OSx.slw (h : OSx sz t v m cs A) : SlW v m := by
  rcases h with h | ⟨rfl, _, _, b, rfl⟩
  · exact h.slw
  · exact ⟨_, _, rfl, Nat.le_refl _, Nat.zero_le _, .inr ⟨_, _, rfl⟩⟩
theorem OSx.one (h : OSx sz t v m cs A) : one v = true := h.slw.one
theorem OSx.pub {α : Type} {c : α → List Value} {xs : List α} {e w : World} {G : View} {L : Own} (hc : ∀ x, (c x).length = sz) (hK : K e w G (A ++ L)) (ho : OSx sz t v xs.length (xs.flatMap c) A) :
    ∃ G', VLe G G' ∧ SlR sz (EF c) G' v xs ∧ K e w G' L := by
  rcases ho with ho | ⟨h0, rfl, _, b, rfl⟩
  · exact K.pubE hc hK ho
  · obtain rfl := List.eq_nil_of_length_eq_zero h0
    exact ⟨G, VLe.refl _, SlR.lit0, hK⟩
end
section
variable {P : Program} {n : Nat} {Q : Po} {f : Sl} {w e : World} {G : View} {L A : Own} {ops : Array Oper} {rest : List Oper} {d : Nat} {pos : String} {af : Array Edge}
end
/-- a world whose items, and keys since the scan began, are the walk's own -/
structure WdO (G : View) (lc : Ls → List Value) (tI tS : TypeId) (W : Wv) (w : Wd) (rs : List Rn) (AI AS : Own) : Prop where
  now : W.now = w.now
  ring : RngS G W.r rs
  rg : rgl rs = w.ring
  leases : SlR 3 (EF lc) G W.l w.leases
  items : OSx 2 tI W.i w.items.length (w.items.flatMap ic) AI
  next : W.next = w.scan.1
  told : IntS G W.t w.scan.2
  since : OSx 1 tS W.s w.since.length (w.since.flatMap fun n => [.int .i64 n]) AS
section
variable {G G' : View} {lc : Ls → List Value} {tI tS : TypeId} {W : Wv} {wd : Wd} {rs : List Rn} {AI AS L : Own} {e w : World}
theorem WdO.mono (h : WdO G lc tI tS W wd rs AI AS) (hG : VLe G G') : WdO G' lc tI tS W wd rs AI AS :=
  ⟨h.now, h.ring.mono hG, h.rg, EF.mono h.leases hG, h.items, h.next, h.told.mono hG, h.since⟩
theorem WdO.one (h : WdO G lc tI tS W wd rs AI AS) : (wc W).all Ro.one = true :=
  allc rfl (allc h.ring.sl.1.one (allc h.leases.1.one (allc h.items.one (allc rfl (allc h.told.1.one (allc h.since.one rfl))))))
theorem WdO.pub (h : WdO G lc tI tS W wd rs AI AS) (hK : K e w G (AI ++ (AS ++ L))) : ∃ G', VLe G G' ∧ WdS G' lc W wd rs ∧ K e w G' L := by
  obtain ⟨G1, g1, h1, hK⟩ := OSx.pub (c := ic) (fun _ => rfl) hK h.items
  obtain ⟨G2, g2, h2, hK⟩ := OSx.pub (c := fun n => [.int .i64 n]) (fun _ => rfl) hK h.since
  exact ⟨G2, g1.trans g2, ⟨h.now, h.ring.mono (g1.trans g2), h.rg, EF.mono h.leases (g1.trans g2), EF.mono h1 g2, h.next, h.told.mono (g1.trans g2), h2⟩, hK⟩
end
section
variable {P : Program} {n : Nat} {Q : Po} {f : Sl} {w : World} {ops : Array Oper} {S : World → Prop} {k : Nat} {l l' : List Bool}
end
end Go.Ro
