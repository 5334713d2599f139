/- From the memory of a walk to the words of a row. Conditions: those that each row states. -/
import Derived.Test.YtbkfnnifkdgbkaaBd
import Derived.Below
namespace Go.Ro
open Go Go.RowKit

def hvw (w : World) : View := fun b => w.heap[b]?
theorem K.start (w : World) : K w w (hvw w) [] :=
  ⟨rfl, rfl, rfl, fun _ _ h => h, fun _ _ h => by simp at h, fun _ _ h => by simp at h, List.nodup_nil⟩
theorem K.below {w w' : World} {G : View} {L : Own} (h : K w w' G L) (hG : VLe (hvw w) G) : Below w.heap.size w w' := by
  have hb : ∀ k o, w.heap[k]? = some o → w'.heap[k]? = some o := fun k o hk => h.view k o (hG k o hk)
  refine ⟨h.os, h.tape, h.out, ?_, ?_⟩
  · rcases Nat.lt_or_ge w'.heap.size w.heap.size with hlt | hge
    · have := hb w'.heap.size _ (Array.getElem?_eq_getElem hlt)
      simp at this
    · exact hge
  · intro k hk
    rw [hb k _ (Array.getElem?_eq_getElem hk), Array.getElem?_eq_getElem hk]

theorem Calls.ofRet {P : Program} {F : FuncId} {args : Array Value} {w : World} (h : Ret P F args w (fun r w' => r = .bool true ∧ ∃ G L, K w w' G L ∧ VLe (hvw w) G)) :
    Calls P F args w fun e w' => e = .returned (.bool true) ∧ Below w.heap.size w w' :=
  Calls.mono h fun _ _ ⟨_, he, hr, _, _, hK, hG⟩ => ⟨hr ▸ he, hK.below hG⟩

theorem cell_row {w : World} {x : Addr} {k : IntKind} {len cap : Nat} {zs : List Int} (hl : len ≤ cap) (hm : cap ≤ maxLen) (hz : zs.length = cap)
    (hc : ∀ i, i < zs.length → w.cell? (x.add i) = some (.int k (zs.getD i 0))) :
    SlR 1 (fun _ cs n => cs = [.int k n]) (hvw w) (.slice (some x) len cap) (zs.take len) := by
  have hlen : (zs.take len).length = len := by rw [List.length_take]; omega
  have hs : 0 < len → x = ⟨x.block, x.off, none⟩ := by
    intro h0
    have h1 := hc 0 (by omega)
    have : x.add 0 = x := rfl
    rw [this] at h1
    unfold World.cell? at h1
    cases hsp : x.spot with
    | none => cases x; simp only at hsp; subst hsp; rfl
    | some s =>
      cases hh : w.heap[x.block]? with
      | none => rw [hh] at h1; cases h1
      | some o => rw [hh] at h1; cases o <;> simp [hsp] at h1
  refine ⟨⟨some x, cap, by rw [hlen], by omega, hm, ?_⟩, ?_⟩
  · rcases Nat.eq_zero_or_pos len with h | h
    · left; omega
    · right; exact ⟨x.block, x.off, by rw [← hs h]⟩
  · intro i n hi
    have hlt : i < len := by
      have := (List.getElem?_eq_some_iff.1 hi).1
      omega
    have hx := hs (by omega)
    refine ⟨[.int k n], rfl, ?_, rfl⟩
    intro j c hj
    have hj0 : j = 0 := by
      have := (List.getElem?_eq_some_iff.1 hj).1
      simp at this; exact this
    subst hj0
    simp at hj; subst hj
    have h1 := hc i (by omega)
    have hadd : x.add i = elA (.slice (some x) len cap) (i * 1 + 0) := by
      unfold Addr.add elA
      split
      · rename_i h0; subst h0; simp only [Nat.zero_mul, Nat.add_zero]; exact hx
      · rw [Nat.mul_one, Nat.add_zero]
    rw [hadd] at h1
    have hn : zs.getD i 0 = n := by
      rw [List.getElem?_take, if_pos hlt] at hi
      simp [List.getD, hi]
    rw [hn] at h1
    exact h1
theorem nil_row {α : Type} {E : View → List Value → α → Prop} {sz : Nat} {G : View} : SlR sz E G (.slice none 0 0) [] :=
  ⟨⟨none, 0, rfl, Nat.le_refl _, Nat.zero_le _, .inl rfl⟩, fun i x h => by simp at h⟩
end Go.Ro
