/- Owned rings, shown and taken back. Conditions: those that each row states. -/
import Derived.Test.YtjfjnmbgimfmaaaRgS
namespace Go.Ro
open Go

theorem cellV_row {G : View} {b : Nat} {l : List Value} {t : TypeId} (h : G b = some (row l t)) (o : Nat) : cellV G ⟨b, o, none⟩ = l[o]? := by
  unfold cellV; simp only [h]; simp [row]
/-- all that a step reads, shown; and how it comes back -/
theorem OR.all {e w : World} {G : View} {L A : Own} {t s sb : Nat} {v : Value} {rs : List Rn} (ho : OR G t v rs A) (hK : K e w G ((sb, row [v] s) :: (A ++ L))) :
    ∃ Gf, VLe G Gf ∧ RngS Gf v rs ∧ cellV Gf ⟨sb, 0, none⟩ = some v ∧ K e w Gf L ∧ (∀ w' L', K e w' Gf L' → K e w' G ((sb, row [v] s) :: (A ++ L'))) := by
  have h0 : K e w G (A ++ ((sb, row [v] s) :: L)) := K.mid (A := [_]) (B := A) hK
  have h1 : K e w (addV G A) ([(sb, row [v] s)] ++ L) := h0.pub
  have h2 := h1.pub
  refine ⟨_, h0.addV_le.trans h1.addV_le, (ho.fr h0).mono h1.addV_le, ?_, h2, fun w' L' h' => K.mid (A := A) (B := [_]) (h0.unpub' (h1.unpub' h'))⟩
  exact cellV_row (addV_mem (by simp) (List.mem_cons_self ..)) 0
theorem NdA.of' {G : View} {v : Value} {rs : List Rn} {id : Int} (hv : RngS G v rs) (hs : RgSafe (rgl rs)) (h : id ∈ ids (rgl rs)) : ∃ i, NdA G rs id i := NdA.of hv hs.1 h
theorem nAt_of {G : View} {v : Value} {rs : List Rn} {id : Int} {i : Nat} (h : NdA G rs id i) : nAt v (rgl rs) id = some (elA v (i * 3)) := by rw [nAt_in h.mem, h.hfx]
theorem K.dropL' {e w : World} {G : View} {A L : Own} (hK : K e w G (A ++ L)) : K e w G L := K.dropL hK
theorem NdA.aftE {G : View} {rs : List Rn} {id : Int} {i : Nat} (hn : NdA G rs id i) : (rs[i]'hn.lt).2.2.2 = (ndAt (rgl rs) id).2.2 := by rw [← hn.hnd]; rfl
theorem NdA.set {G : View} {rs : List Rn} {id : Int} {i : Nat} (hn : NdA G rs id i) {y : Rn} {n : Nd} (h : nd y = n) : setN (rgl rs) id n = rgl (rs.set i y) := by
  rw [rgl_set, h]; unfold setN; rw [hn.hfx]
theorem NdA.setBef {G : View} {rs : List Rn} {id : Int} {i : Nat} (hn : NdA G rs id i) (b : Int) : setN (rgl rs) id (id, b, (ndAt (rgl rs) id).2.2) = rgl (rs.set i ((rs[i]'hn.lt).1, b, (rs[i]'hn.lt).2.2.1, (rs[i]'hn.lt).2.2.2)) :=
  hn.set (by unfold nd; simp only; rw [hn.hid, hn.aftE])
theorem NdA.setAft {G : View} {rs : List Rn} {id : Int} {i : Nat} (hn : NdA G rs id i) (u : Value) (l : List Int) : setN (rgl rs) id (id, (ndAt (rgl rs) id).2.1, l) = rgl (rs.set i ((rs[i]'hn.lt).1, (rs[i]'hn.lt).2.1, u, l)) :=
  hn.set (by unfold nd; simp only; rw [hn.hid, hn.bef])
/-- the value that holds a list is not seen -/
theorem rgl_ir {rs : List Rn} {i : Nat} (_ : i < rs.length) {a b : Int} {u v : Value} {l : List Int} : rgl (rs.set i (a, b, u, l)) = rgl (rs.set i (a, b, v, l)) := by
  rw [rgl_set, rgl_set]; rfl
theorem OR.cid {e w : World} {G G' : View} {L A : Own} {t : Nat} {v : Value} {rs : List Rn} {id : Int} {i : Nat} (h : OR G t v rs A) (hK : K e w G (A ++ L)) (hn : NdA G' rs id i) : w.cell? (elA v (i * 3 + 0)) = some (.int .i64 id) := by
  have := h.cell hK hn.lt 0 rfl
  rw [hn.hid] at this; exact this
end Go.Ro
