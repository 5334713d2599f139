/- Owned rings, shown and taken back. Conditions: those that each row states. -/
import Derived.Test.YtbkfnnifkdgbkaaRgS
namespace Go.Ro
open Go

theorem cellV_row {G : View} {b : Nat} {l : List Value} {t : TypeId} (h : G b = some (row l t)) (o : Nat) : cellV G ⟨b, o, none⟩ = l[o]? := by
  unfold cellV; simp only [h]; simp [row]
/-- all that a step reads, shown; and how it comes back -/
theorem OR.all {e w : World} {G : View} {L A : Own} {t s sb : Nat} {v : Value} {rs : List Rn} (ho : OR G t v rs A) (hK : K e w G ((sb, row [v] s) :: (A ++ L))) :
    ∃ Gf, VLe G Gf ∧ RngS Gf v rs ∧ cellV Gf ⟨sb, 0, none⟩ = some v ∧ K e w Gf L ∧ (∀ w' L', K e w' Gf L' → K e w' G ((sb, row [v] s) :: (A ++ L'))) := by
  have h0 : K e w G (A ++ ((sb, row [v] s) :: L)) := K.mid (A := [_]) (B := A) hK
  have h1 : K e w (addV G A) ([(sb, row [v] s)] ++ L) := h0.pub
  have h2 := h1.pub
  refine ⟨_, h0.addV_le.trans h1.addV_le, (ho.fr h0).mono h1.addV_le, ?_, h2, fun w' L' h' => K.mid (A := A) (B := [_]) (h0.unpub' (h1.unpub' h'))⟩
  exact cellV_row (addV_mem (by simp) (List.mem_cons_self ..)) 0
theorem NdA.set {G : View} {rs : List Rn} {id : Int} {i : Nat} (hn : NdA G rs id i) {y : Rn} {n : Nd} (h : nd y = n) : setN (rgl rs) id n = rgl (rs.set i y) := by
  rw [rgl_set, h]; unfold setN; rw [hn.hfx]
end Go.Ro
