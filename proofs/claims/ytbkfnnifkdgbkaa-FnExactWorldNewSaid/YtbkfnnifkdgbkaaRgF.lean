/- Memory that is new since a view: slices, rings. Conditions: those that each row states. -/
import Derived.Test.YtbkfnnifkdgbkaaRgU
namespace Go.Ro
open Go
section
variable {e w w' : World} {G G' G0 G1 : View} {L A B : Own} {sz t m : Nat} {v : Value} {cs : List Value} {rs : List Rn}

/-- the block of a slice that is not empty -/
def bl : Value → List Nat
  | .slice (some a) (_ + 1) _ => [a.block]
  | _ => []

/-- v is an empty slice, or one that its owner published in G, in memory that is new since G0 -/
def New (sz : Nat) (t : TypeId) (G0 G : View) (v : Value) (m : Nat) (cs : List Value) : Prop :=
  (m = 0 ∧ cs = [] ∧ SlW v 0) ∨ ∃ A, OS sz t v m cs A ∧ ∀ x ∈ A, G0 x.1 = none ∧ G x.1 = some x.2
theorem New.mono (h : New sz t G0 G v m cs) (hG : VLe G G') : New sz t G0 G' v m cs := by
  rcases h with h | ⟨A, h1, h2⟩
  · exact .inl h
  · exact .inr ⟨A, h1, fun x hx => ⟨(h2 x hx).1, hG _ _ (h2 x hx).2⟩⟩
theorem VLe.none (h : VLe G0 G1) {b : Nat} (hb : G1 b = none) : G0 b = none := by
  cases hc : G0 b with
  | none => rfl
  | some o => rw [h b o hc] at hb; cases hb
theorem addV_in (hK : K e w G (A ++ L)) {x : Nat × Obj} (hx : x ∈ A) : addV G A x.1 = some x.2 :=
  addV_mem (by have := hK.nodup; rw [List.map_append] at this; exact (List.nodup_append.1 this).1) hx
theorem New.own (ho : OS sz t v m cs A) (hK : K e w G (A ++ L)) (hG : VLe G0 G) : New sz t G0 (addV G A) v m cs :=
  .inr ⟨A, ho, fun x hx => ⟨hG.none (hK.sep x.1 x.2 (List.mem_append_left _ hx)), addV_in hK hx⟩⟩
theorem OS.bl (h : OS sz t v m cs A) : ∀ b ∈ bl v, ∃ o, (b, o) ∈ A := by
  rcases h.2 with ⟨rfl, _, _⟩ | ⟨b, cap, cur, rfl, rfl, _⟩
  · intro b hb; simp [Ro.bl] at hb
  · intro b' hb
    cases m with
    | zero => simp [Ro.bl] at hb
    | succ m => simp [Ro.bl] at hb; subst hb; exact ⟨_, List.mem_singleton.2 rfl⟩
theorem SlW.bl (h : SlW v 0) : Ro.bl v = [] := by
  obtain ⟨a, c, rfl, _⟩ := h
  cases a <;> rfl
theorem New.fresh (h : New sz t G0 G v m cs) : ∀ b ∈ bl v, G0 b = none ∧ ∃ o, G b = some o := by
  rcases h with ⟨_, _, h⟩ | ⟨A, h1, h2⟩
  · rw [h.bl]; intro b hb; exact absurd hb (by simp)
  · intro b hb
    obtain ⟨o, ho⟩ := h1.bl b hb
    exact ⟨(h2 _ ho).1, o, (h2 _ ho).2⟩
theorem bl_nodup (v : Value) : (bl v).Nodup := by
  unfold bl; split <;> simp

/-- an owned slice, or an empty one that nobody owns -/
def OZ (sz : Nat) (t : TypeId) (v : Value) (m : Nat) (cs : List Value) (A : Own) : Prop :=
  OS sz t v m cs A ∨ (m = 0 ∧ cs = [] ∧ A = [] ∧ SlW v 0)
theorem OZ.os (h : OZ sz t v m cs A) (hm : 0 < m) : OS sz t v m cs A := by
  rcases h with h | ⟨h, _⟩
  · exact h
  · omega
theorem OZ.slw (h : OZ sz t v m cs A) : SlW v m := by
  rcases h with h | ⟨rfl, _, _, h⟩
  · exact h.slw
  · exact h
theorem OZ.nodup (h : OZ sz t v m cs A) : (A.map (·.1)).Nodup := by
  rcases h with h | ⟨_, _, rfl, _⟩
  · exact h.nodup
  · simp
/-- what is new can be owned again -/
theorem New.oz (h : New sz t G0 G v m cs) : ∃ A, OZ sz t v m cs A ∧ A.map (·.1) = bl v ∧ ∀ x ∈ A, G0 x.1 = none ∧ G x.1 = some x.2 := by
  rcases h with ⟨h1, h2, h3⟩ | ⟨A, h1, h2⟩
  · exact ⟨[], .inr ⟨h1, h2, rfl, h3⟩, by rw [h3.bl]; rfl, fun x hx => absurd hx (by simp)⟩
  · rcases h1.2 with ⟨rfl, rfl, rfl⟩ | ⟨b, cap, cur, rfl, rfl, h4, h5, h6, h7⟩
    · exact ⟨[], .inl h1, rfl, h2⟩
    · cases m with
      | zero =>
        refine ⟨[], .inr ⟨rfl, ?_, rfl, ⟨_, _, rfl, by omega, h5, .inl rfl⟩⟩, rfl, fun x hx => absurd hx (by simp)⟩
        rw [← h7]; simp
      | succ m => exact ⟨_, .inl h1, rfl, h2⟩

/-- the view without some blocks -/
def subV (G : View) (bs : List Nat) : View := fun b => if b ∈ bs then none else G b
theorem subV_le (hG : VLe G0 G) {bs : List Nat} (h : ∀ b ∈ bs, G0 b = none) : VLe G0 (subV G bs) := by
  intro b o hb
  unfold subV
  rw [if_neg (fun hc => by rw [h b hc] at hb; cases hb)]
  exact hG b o hb
theorem K.take (hK : K e w G L) (hA : ∀ x ∈ A, G x.1 = some x.2) (hn : (A.map (·.1)).Nodup) : K e w (subV G (A.map (·.1))) (A ++ L) := by
  have hs : ∀ b o, (b, o) ∈ A → subV G (A.map (·.1)) b = none := fun b o h => if_pos (List.mem_map.2 ⟨_, h, rfl⟩)
  refine ⟨hK.tape, hK.os, hK.out, fun b o h => ?_, fun b o h => ?_, fun b o h => ?_, ?_⟩
  · unfold subV at h
    split at h
    · cases h
    · exact hK.view b o h
  · rcases List.mem_append.1 h with h | h
    · exact hK.view b o (hA _ h)
    · exact hK.own b o h
  · rcases List.mem_append.1 h with h | h
    · exact hs b o h
    · unfold subV; split
      · rfl
      · exact hK.sep b o h
  · rw [List.map_append, List.nodup_append]
    refine ⟨hn, hK.nodup, fun x hx y hy hxy => ?_⟩
    subst hxy
    obtain ⟨p, hp, rfl⟩ := List.mem_map.1 hx
    obtain ⟨q, hq, he⟩ := List.mem_map.1 hy
    have h1 := hA p hp
    have h2 := hK.sep q.1 q.2 hq
    rw [he] at h2
    rw [h1] at h2; cases h2

/-- the inner lists of a ring are new since G0, each in a block of its own -/
structure RnF (t : TypeId) (G0 G : View) (rs : List Rn) : Prop where
  new : ∀ x ∈ rs, New 1 t G0 G x.2.2.1 x.2.2.2.length (ints x.2.2.2)
  nd : (rs.flatMap fun x => bl x.2.2.1).Nodup
theorem RnF.mono (h : RnF t G0 G rs) (hG : VLe G G') : RnF t G0 G' rs := ⟨fun x hx => (h.new x hx).mono hG, h.nd⟩
theorem RnF.nil : RnF t G0 G [] := ⟨fun _ h => absurd h (by simp), List.nodup_nil⟩
theorem RnF.sub {ps : List Rn} (h : RnF t G0 G rs) (hs : ps.Sublist rs) : RnF t G0 G ps :=
  ⟨fun x hx => h.new x (hs.subset hx), h.nd.sublist (by
    clear h
    induction hs with
    | slnil => exact List.Sublist.refl _
    | cons a _ ih => rw [List.flatMap_cons]; exact ih.trans (List.sublist_append_right _ _)
    | cons_cons a _ ih => rw [List.flatMap_cons, List.flatMap_cons]; exact (List.Sublist.refl _).append ih)⟩
theorem RnF.perm {ps : List Rn} (h : RnF t G0 G rs) (hp : ps.Perm rs) : RnF t G0 G ps :=
  ⟨fun x hx => h.new x (hp.subset hx), (hp.flatMap_right _).nodup_iff.2 h.nd⟩
/-- a node more, whose list lies in a block that is not yet in view -/
theorem RnF.cons {x : Rn} (h : RnF t G0 G rs) (hx : New 1 t G0 G' x.2.2.1 x.2.2.2.length (ints x.2.2.2)) (hG : VLe G G') (hb : ∀ b ∈ bl x.2.2.1, G b = none) : RnF t G0 G' (x :: rs) := by
  refine ⟨fun y hy => ?_, ?_⟩
  · rcases List.mem_cons.1 hy with rfl | hy
    · exact hx
    · exact (h.new y hy).mono hG
  · rw [List.flatMap_cons, List.nodup_append]
    refine ⟨bl_nodup _, h.nd, fun b h1 b' h2 hbb => ?_⟩
    subst hbb
    obtain ⟨y, hy, hyb⟩ := List.mem_flatMap.1 h2
    obtain ⟨_, o, ho⟩ := (h.new y hy).fresh b hyb
    rw [hb b h1] at ho; cases ho
theorem RnF.set {x : Rn} {i : Nat} (h : RnF t G0 G rs) (hi : i < rs.length) (hx : New 1 t G0 G' x.2.2.1 x.2.2.2.length (ints x.2.2.2)) (hG : VLe G G') (hb : ∀ b ∈ bl x.2.2.1, G b = none) : RnF t G0 G' (rs.set i x) := by
  have e : rs.set i x = rs.take i ++ x :: rs.drop (i + 1) := by rw [List.set_eq_take_append_cons_drop, if_pos hi]
  rw [e]
  refine (RnF.cons (h.sub ?_) hx hG hb).perm List.perm_middle
  rw [← List.eraseIdx_eq_take_drop_succ]
  exact List.eraseIdx_sublist rs i
/-- a node's list stays, its numbers change -/
theorem RnF.same {x : Rn} {i : Nat} (h : RnF t G0 G rs) (hi : i < rs.length) (h1 : x.2.2 = rs[i].2.2) : RnF t G0 G (rs.set i x) := by
  have e : (rs.set i x).map (fun y => y.2.2) = rs.map fun y => y.2.2 := by
    rw [List.map_set, h1]
    refine List.ext_getElem (by simp) fun j h2 h3 => ?_
    rw [List.getElem_set]
    split
    · rename_i hij; subst hij; simp
    · rfl
  have hf : ∀ (l : List Rn), (l.flatMap fun y => bl y.2.2.1) = (l.map fun y => y.2.2).flatMap fun z => bl z.1 := fun l => by rw [List.flatMap_map]
  refine ⟨fun y hy => ?_, by rw [hf, e, ← hf]; exact h.nd⟩
  have hm : y.2.2 ∈ rs.map fun y => y.2.2 := by rw [← e]; exact List.mem_map.2 ⟨y, hy, rfl⟩
  obtain ⟨z, hz, hzy⟩ := List.mem_map.1 hm
  rw [← hzy]; exact h.new z hz
def OZS (t : TypeId) (us : List (Value × List Int × Own)) : Prop := ∀ p ∈ us, OZ 1 t p.1 p.2.1.length (ints p.2.1) p.2.2
/-- the inner lists of a ring that are new can be owned again -/
theorem RnF.own (h : RnF t G0 G rs) : ∃ os : List Ron, toRs os = rs ∧ OZS t (uso os) ∧ (flat (uso os)).map (·.1) = (rs.flatMap fun x => bl x.2.2.1) ∧ ∀ x ∈ flat (uso os), G0 x.1 = none ∧ G x.1 = some x.2 := by
  have hn := h.new
  clear h
  induction rs with
  | nil => exact ⟨[], rfl, fun _ h => absurd h (by simp [uso]), rfl, fun _ h => absurd h (by simp [uso, flat])⟩
  | cons x rs ih =>
    obtain ⟨os, h1, h2, h3, h4⟩ := ih fun y hy => hn y (List.mem_cons_of_mem _ hy)
    obtain ⟨A, g1, g2, g3⟩ := (hn x (List.mem_cons_self ..)).oz
    refine ⟨(x.1, x.2.1, x.2.2.1, x.2.2.2, A) :: os, by rw [← h1]; rfl, fun p hp => ?_, ?_, fun y hy => ?_⟩
    · rcases List.mem_cons.1 (show p ∈ (x.2.2.1, x.2.2.2, A) :: uso os from hp) with rfl | hp
      · exact g1
      · exact h2 p hp
    · show (((x.2.2.1, x.2.2.2, A) :: uso os).flatMap (·.2.2)).map (·.1) = _
      rw [List.flatMap_cons, List.flatMap_cons, List.map_append, g2, ← h3]; rfl
    · rcases List.mem_append.1 (show y ∈ A ++ flat (uso os) from hy) with hy | hy
      · exact g3 y hy
      · exact h4 y hy
end
end Go.Ro
