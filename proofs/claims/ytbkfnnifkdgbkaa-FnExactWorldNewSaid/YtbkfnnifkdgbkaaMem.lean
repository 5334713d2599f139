/- The memory of a walk: a view that no one writes any more, and a list of blocks that the walk owns. Conditions: those that each row states. -/
import Derived.Test.YtbkfnnifkdgbkaaRules
namespace Go.Ro
open Go

abbrev View := Nat → Option Obj
abbrev Own := List (Nat × Obj)

structure K (e w : World) (G : View) (L : Own) : Prop where
  tape : w.tape = e.tape
  os : w.os = e.os
  out : w.output = e.output
  view : ∀ b o, G b = some o → w.heap[b]? = some o
  own : ∀ b o, (b, o) ∈ L → w.heap[b]? = some o
  sep : ∀ b o, (b, o) ∈ L → G b = none
  nodup : (L.map (·.1)).Nodup

def VLe (G G' : View) : Prop := ∀ b o, G b = some o → G' b = some o
theorem VLe.refl (G : View) : VLe G G := fun _ _ h => h
theorem VLe.trans {A B C : View} (h : VLe A B) (h' : VLe B C) : VLe A C := fun b o x => h' b o (h b o x)

def cellV (G : View) (a : Addr) : Option Value :=
  match G a.block with
  | some (.cells c _ _) => if a.spot.isSome then none else c[a.off]?
  | _ => none

theorem cellV.mono {G G' : View} (h : VLe G G') {a : Addr} {v : Value} (hc : cellV G a = some v) : cellV G' a = some v := by
  unfold cellV at *
  cases hg : G a.block with
  | none => rw [hg] at hc; cases hc
  | some _ => rw [h _ _ hg]; rw [hg] at hc; exact hc

theorem K.cell {e w : World} {G : View} {L : Own} (hK : K e w G L) {a : Addr} {v : Value} (hc : cellV G a = some v) : w.cell? a = some v := by
  unfold cellV at hc
  unfold World.cell?
  cases hg : G a.block with
  | none => rw [hg] at hc; cases hc
  | some _ =>
    rw [hg] at hc
    rw [hK.view _ _ hg]
    exact hc

theorem row_cell {w : World} {b o : Nat} {l : List Value} {t : TypeId} (h : w.heap[b]? = some (row l t)) : w.cell? ⟨b, o, none⟩ = l[o]? := by
  simp [World.cell?, h, row]
theorem row_frozen {w : World} {a : Addr} {l : List Value} {t : TypeId} (h : w.heap[a.block]? = some (row l t)) : w.frozen? a = false := by
  simp [World.frozen?, h, row]

theorem lt_of_heap {w : World} {b : Nat} {o : Obj} (h : w.heap[b]? = some o) : b < w.heap.size := (Array.getElem?_eq_some_iff.1 h).1

section
variable {e w : World} {G : View} {L : Own}

/-- the blocks may be listed in any order, and some may be let go -/
theorem K.sub (hK : K e w G L) {L' : Own} (hs : ∀ x ∈ L', x ∈ L) (hn : (L'.map (·.1)).Nodup) : K e w G L' :=
  ⟨hK.tape, hK.os, hK.out, hK.view, fun b o h => hK.own b o (hs _ h), fun b o h => hK.sep b o (hs _ h), hn⟩
theorem K.perm (hK : K e w G L) {L' : Own} (h : L'.Perm L) : K e w G L' :=
  hK.sub (fun _ hx => h.mem_iff.1 hx) ((h.map _).nodup_iff.2 hK.nodup)
theorem K.dropL {A : Own} (hK : K e w G (A ++ L)) : K e w G L :=
  hK.sub (fun _ h => List.mem_append_right _ h) (by have := hK.nodup; rw [List.map_append] at this; exact (List.nodup_append.1 this).2.1)
theorem K.drop1 {x : Nat × Obj} (hK : K e w G (x :: L)) : K e w G L := K.dropL (A := [x]) hK
theorem K.dropR {A : Own} (hK : K e w G (L ++ A)) : K e w G L :=
  hK.sub (fun _ h => List.mem_append_left _ h) (by have := hK.nodup; rw [List.map_append] at this; exact (List.nodup_append.1 this).1)
theorem K.swap {A B : Own} (hK : K e w G (A ++ B)) : K e w G (B ++ A) := hK.perm List.perm_append_comm
theorem K.mid {A B C : Own} (hK : K e w G (A ++ (B ++ C))) : K e w G (B ++ (A ++ C)) :=
  hK.perm (by rw [← List.append_assoc, ← List.append_assoc]; exact List.Perm.append_right _ List.perm_append_comm)
theorem K.mid1 {x : Nat × Obj} {B C : Own} (hK : K e w G (x :: (B ++ C))) : K e w G (B ++ x :: C) := K.mid (A := [x]) hK
theorem K.back1 {x : Nat × Obj} {B C : Own} (hK : K e w G (B ++ x :: C)) : K e w G (x :: (B ++ C)) := K.mid (B := [x]) (A := B) hK

theorem K.own_lt (hK : K e w G L) {b : Nat} {o : Obj} (h : (b, o) ∈ L) : b < w.heap.size := lt_of_heap (hK.own b o h)
theorem K.view_lt (hK : K e w G L) {b : Nat} {o : Obj} (h : G b = some o) : b < w.heap.size := lt_of_heap (hK.view b o h)

theorem K.drawn (hK : K e w G L) (k : Nat) : K e { w with drawn := k } G L := ⟨hK.tape, hK.os, hK.out, hK.view, hK.own, hK.sep, hK.nodup⟩

theorem K.alloc (hK : K e w G L) (o : Obj) : K e (w.alloc o) G ((w.heap.size, o) :: L) := by
  have old : ∀ (b : Nat) (x : Obj), w.heap[b]? = some x → (w.alloc o).heap[b]? = some x := fun b x h => by rw [← h]; show (w.heap.push o)[b]? = w.heap[b]?; rw [Array.getElem?_push, if_neg (Nat.ne_of_lt (lt_of_heap h))]
  refine ⟨hK.tape, hK.os, hK.out, fun b x h => old b x (hK.view b x h), ?_, ?_, ?_⟩
  · intro b x h
    rcases List.mem_cons.1 h with h | h
    · cases h; exact heap_alloc_new w o
    · exact old b x (hK.own b x h)
  · intro b x h
    rcases List.mem_cons.1 h with h | h
    · cases h
      cases hg : G w.heap.size with
      | none => rfl
      | some y => exact absurd (hK.view_lt hg) (Nat.lt_irrefl _)
    · exact hK.sep b x h
  · rw [List.map_cons, List.nodup_cons]
    refine ⟨?_, hK.nodup⟩
    intro h
    obtain ⟨⟨b, x⟩, hm, hb⟩ := List.mem_map.1 h
    have := hK.own_lt hm
    simp only at hb
    omega

/-- block b gets other contents -/
theorem K.write {b : Nat} {o o' : Obj} (hK : K e w G ((b, o) :: L)) {w' : World} (ht : w'.tape = w.tape) (hos : w'.os = w.os) (hout : w'.output = w.output)
    (hb : w'.heap[b]? = some o') (hne : ∀ k, k ≠ b → ∀ x, w.heap[k]? = some x → w'.heap[k]? = some x) : K e w' G ((b, o') :: L) := by
  have hnd := hK.nodup
  rw [List.map_cons, List.nodup_cons] at hnd
  have hgb : G b = none := hK.sep b o (List.mem_cons_self ..)
  refine ⟨ht.trans hK.tape, hos.trans hK.os, hout.trans hK.out, ?_, ?_, ?_, ?_⟩
  · intro k x h
    refine hne k ?_ x (hK.view k x h)
    rintro rfl; rw [hgb] at h; cases h
  · intro k x h
    rcases List.mem_cons.1 h with h | h
    · cases h; exact hb
    · refine hne k ?_ x (hK.own k x (List.mem_cons_of_mem _ h))
      intro hkb
      have h3 := List.mem_map_of_mem (f := fun x : Nat × Obj => x.1) h
      rw [hkb] at h3; exact hnd.1 h3
  · intro k x h
    rcases List.mem_cons.1 h with h | h
    · cases h; exact hgb
    · exact hK.sep k x (List.mem_cons_of_mem _ h)
  · rw [List.map_cons, List.nodup_cons]; exact hnd

/-- the view, and a list of blocks besides -/
def addV (G : View) (A : Own) : View := fun b => match A.find? (fun x => x.1 == b) with | some x => some x.2 | none => G b

theorem K.pub {A : Own} (hK : K e w G (A ++ L)) : K e w (addV G A) L := by
  refine ⟨hK.tape, hK.os, hK.out, ?_, fun b o h => hK.own b o (List.mem_append_right _ h), ?_, hK.dropL.nodup⟩
  · intro b o h
    unfold addV at h
    cases hf : A.find? (fun x => x.1 == b) with
    | none => rw [hf] at h; exact hK.view b o h
    | some x =>
      rw [hf] at h
      cases h
      have h1 := List.mem_of_find?_eq_some hf
      have h2 := List.find?_some hf
      simp only [beq_iff_eq] at h2
      subst h2
      exact hK.own _ _ (List.mem_append_left _ h1)
  · intro b o h
    unfold addV
    cases hf : A.find? (fun x => x.1 == b) with
    | none => exact hK.sep b o (List.mem_append_right _ h)
    | some x =>
      exfalso
      have h1 := List.mem_of_find?_eq_some hf
      have h2 := List.find?_some hf
      simp only [beq_iff_eq] at h2
      have hn := hK.nodup
      rw [List.map_append, List.nodup_append] at hn
      exact hn.2.2 _ (List.mem_map_of_mem (f := (·.1)) h1) _ (List.mem_map_of_mem (f := (·.1)) h) h2

theorem K.addV_le {A : Own} (hK : K e w G (A ++ L)) : VLe G (addV G A) := by
  intro b o h
  unfold addV
  cases hf : A.find? (fun x => x.1 == b) with
  | none => exact h
  | some x =>
    exfalso
    have h1 := List.mem_of_find?_eq_some hf
    have h2 := List.find?_some hf
    simp only [beq_iff_eq] at h2
    have := hK.sep x.1 x.2 (List.mem_append_left _ h1)
    rw [h2, h] at this; cases this

def none_ : View := fun _ => none
theorem find_own : ∀ {A : Own} {b : Nat} {o : Obj}, (A.map (·.1)).Nodup → (b, o) ∈ A → A.find? (fun x => x.1 == b) = some (b, o)
  | [], b, o, _, h => by cases h
  | x :: A, b, o, hn, h => by
    rw [List.map_cons, List.nodup_cons] at hn
    rcases List.mem_cons.1 h with h | h
    · subst h; simp
    · have hne : x.1 ≠ b := by
        rintro rfl; exact hn.1 (List.mem_map_of_mem (f := (·.1)) h)
      rw [List.find?_cons_of_neg (by simpa using hne)]
      exact find_own hn.2 h
theorem addV_mem {A : Own} {G : View} {b : Nat} {o : Obj} (hn : (A.map (·.1)).Nodup) (h : (b, o) ∈ A) : addV G A b = some o := by
  unfold addV; rw [find_own hn h]
end
end Go.Ro
