/- Worlds in memory that is new since a view. New memory, published step by step; marked slices. Conditions: those that each row states. -/
import Derived.Test.YtmgggljicpmndaaGreatDoorWdN
import Derived.Test.YtmgggljicpmndaaGreatDoorOx
namespace Go.Ro
open Go
section
variable {e w w' : World} {G G' G0 G1 : View} {L A B AI AS : Own} {lc : Ls → List Value} {tN tL tI tS : TypeId} {W : Wv} {wd : Wd} {rs : List Rn}
def wb (W : Wv) (rs : List Rn) : List Nat := bl W.r ++ ((rs.flatMap fun x => bl x.2.2.1) ++ (bl W.l ++ (bl W.i ++ (bl W.t ++ bl W.s))))
structure WdF (lc : Ls → List Value) (tN tL tI tS : TypeId) (G0 G : View) (W : Wv) (wd : Wd) (rs : List Rn) : Prop where
  ring : New 3 tN G0 G W.r rs.length (rs.flatMap rc)
  inn : RnF tS G0 G rs
  leases : New 3 tL G0 G W.l wd.leases.length (wd.leases.flatMap lc)
  items : New 2 tI G0 G W.i wd.items.length (wd.items.flatMap ic)
  told : New 1 tS G0 G W.t wd.scan.2.length (ints wd.scan.2)
  since : New 1 tS G0 G W.s wd.since.length (ints wd.since)
  nd : (wb W rs).Nodup
theorem WdF.mono (h : WdF lc tN tL tI tS G0 G W wd rs) (hG : VLe G G') : WdF lc tN tL tI tS G0 G' W wd rs :=
  ⟨h.ring.mono hG, h.inn.mono hG, h.leases.mono hG, h.items.mono hG, h.told.mono hG, h.since.mono hG, h.nd⟩
theorem WdF.older (h : WdF lc tN tL tI tS G1 G W wd rs) (hG : VLe G0 G1) : WdF lc tN tL tI tS G0 G W wd rs :=
  ⟨h.ring.older hG, h.inn.older hG, h.leases.older hG, h.items.older hG, h.told.older hG, h.since.older hG, h.nd⟩
def Bks (G : View) (bs : List Nat) : Prop := bs.Nodup ∧ ∀ b ∈ bs, ∃ o, G b = some o
theorem Bks.nil : Bks G [] := ⟨List.nodup_nil, fun _ h => absurd h (by simp)⟩
theorem Bks.mono {bs : List Nat} (h : Bks G bs) (hG : VLe G G') : Bks G' bs := ⟨h.1, fun b hb => let ⟨o, ho⟩ := h.2 b hb; ⟨o, hG b o ho⟩⟩
theorem Bks.app {as bs : List Nat} (hb : Bks G bs) (ha : Bks G' as) (hG : VLe G G') (hn : ∀ b ∈ as, G b = none) : Bks G' (as ++ bs) := by
  refine ⟨List.nodup_append.2 ⟨ha.1, hb.1, fun x hx y hy hxy => ?_⟩, fun b h => ?_⟩
  · subst hxy
    obtain ⟨o, ho⟩ := hb.2 x hy
    rw [hn x hx] at ho; cases ho
  · rcases List.mem_append.1 h with h | h
    · exact ha.2 b h
    · exact (hb.mono hG).2 b h
theorem Bks.perm {as bs : List Nat} (h : Bks G as) (hp : bs.Perm as) : Bks G bs := ⟨hp.nodup_iff.2 h.1, fun b hb => h.2 b (hp.subset hb)⟩
theorem Bks.sub {as bs : List Nat} (h : Bks G as) (hp : bs.Sublist as) : Bks G bs := ⟨h.1.sublist hp, fun b hb => h.2 b (hp.subset hb)⟩
theorem New.bk {sz m : Nat} {t : TypeId} {v : Value} {cs : List Value} (h : New sz t G0 G v m cs) : Bks G (bl v) := ⟨bl_nodup v, fun b hb => (h.fresh b hb).2⟩
theorem RnF.bk {t : TypeId} (h : RnF t G0 G rs) : Bks G (rs.flatMap fun x => bl x.2.2.1) := ⟨h.nd, fun b hb => by
  obtain ⟨x, hx, hb⟩ := List.mem_flatMap.1 hb
  exact ((h.new x hx).fresh b hb).2⟩
theorem RnF.fresh {t : TypeId} (h : RnF t G0 G rs) : ∀ b ∈ (rs.flatMap fun x => bl x.2.2.1), G0 b = none := fun b hb => by
  obtain ⟨x, hx, hb⟩ := List.mem_flatMap.1 hb
  exact ((h.new x hx).fresh b hb).1
theorem WdF.bk (h : WdF lc tN tL tI tS G0 G W wd rs) : Bks G (wb W rs) := by
  refine ⟨h.nd, fun b hb => ?_⟩
  unfold wb at hb
  simp only [List.mem_append] at hb
  rcases hb with hb | hb | hb | hb | hb | hb
  · exact (h.ring.fresh b hb).2
  · exact h.inn.bk.2 b hb
  · exact (h.leases.fresh b hb).2
  · exact (h.items.fresh b hb).2
  · exact (h.told.fresh b hb).2
  · exact (h.since.fresh b hb).2
theorem WdF.fresh (h : WdF lc tN tL tI tS G0 G W wd rs) : ∀ b ∈ wb W rs, G0 b = none := by
  intro b hb
  unfold wb at hb
  simp only [List.mem_append] at hb
  rcases hb with hb | hb | hb | hb | hb | hb
  · exact (h.ring.fresh b hb).1
  · exact h.inn.fresh b hb
  · exact (h.leases.fresh b hb).1
  · exact (h.items.fresh b hb).1
  · exact (h.told.fresh b hb).1
  · exact (h.since.fresh b hb).1
structure WdT (lc : Ls → List Value) (tN tL tI tS : TypeId) (W : Wv) (wd : Wd) (os : List Ron) (AR AL AI AT AS : Own) : Prop where
  ring : OZ 3 tN W.r os.length ((toRs os).flatMap rc) AR
  inn : OZS tS (uso os)
  leases : OZ 3 tL W.l wd.leases.length (wd.leases.flatMap lc) AL
  items : OZ 2 tI W.i wd.items.length (wd.items.flatMap ic) AI
  told : OZ 1 tS W.t wd.scan.2.length (ints wd.scan.2) AT
  since : OZ 1 tS W.s wd.since.length (ints wd.since) AS
theorem WdF.take (h : WdF lc tN tL tI tS G0 G W wd rs) (hK : K e w G L) (hG : VLe G0 G) :
    ∃ G' os AR AL AI AT AS, VLe G0 G' ∧ toRs os = rs ∧ WdT lc tN tL tI tS W wd os AR AL AI AT AS ∧ K e w G' (AR ++ (flat (uso os) ++ (AL ++ (AI ++ (AT ++ (AS ++ L)))))) := by
  obtain ⟨AR, r1, r2, r3⟩ := h.ring.oz
  obtain ⟨os, i1, i2, i3, i4⟩ := h.inn.own
  obtain ⟨AL, l1, l2, l3⟩ := h.leases.oz
  obtain ⟨AI, t1, t2, t3⟩ := h.items.oz
  obtain ⟨AT, o1, o2, o3⟩ := h.told.oz
  obtain ⟨AS, s1, s2, s3⟩ := h.since.oz
  have hm : (AR ++ (flat (uso os) ++ (AL ++ (AI ++ (AT ++ AS))))).map (·.1) = wb W rs := by
    unfold wb
    simp only [List.map_append]
    rw [r2, i3, l2, t2, o2, s2]
  have hk := hK.take (A := AR ++ (flat (uso os) ++ (AL ++ (AI ++ (AT ++ AS))))) (fun x hx => by
    simp only [List.mem_append] at hx
    rcases hx with hx | hx | hx | hx | hx | hx
    · exact (r3 x hx).2
    · exact (i4 x hx).2
    · exact (l3 x hx).2
    · exact (t3 x hx).2
    · exact (o3 x hx).2
    · exact (s3 x hx).2) (by rw [hm]; exact h.nd)
  refine ⟨_, os, AR, AL, AI, AT, AS, subV_le (bs := (AR ++ (flat (uso os) ++ (AL ++ (AI ++ (AT ++ AS))))).map (·.1)) hG (by rw [hm]; exact h.fresh), i1, ⟨?_, i2, l1, t1, o1, s1⟩, ?_⟩
  · rw [← i1, toRs_len] at r1; rw [← i1] at *; exact r1
  · simpa only [List.append_assoc] using hk
end
open Go
section
variable {e w w' : World} {G G' G0 G1 : View} {L A B : Own} {sz t tN tS m : Nat} {v u : Value} {cs : List Value} {rs qs : List Rn} {xs : List Int}
theorem New.empty (hv : SlW v 0) : New sz t G0 G v 0 [] := .inl ⟨rfl, rfl, hv⟩
theorem SlW.nil0 : SlW (.slice none 0 0) 0 := ⟨_, _, rfl, Nat.le_refl _, Nat.zero_le _, .inl rfl⟩
theorem New.nil0 : New sz t G0 G (.slice none 0 0) 0 [] := New.empty SlW.nil0
theorem New.lit0 {p : Option Addr} : New sz t G0 G (.slice p 0 0) 0 [] := New.empty ⟨_, _, rfl, Nat.le_refl _, Nat.zero_le _, .inl rfl⟩
theorem osBlG (ho : OS sz t v m cs A) (hK : K e w G (A ++ L)) : ∀ b ∈ bl v, G b = none := fun b hb => by
  obtain ⟨o, h⟩ := ho.bl b hb
  exact hK.sep b o (List.mem_append_left _ h)
theorem K.pubOF (hK : K e w G (A ++ L)) (ho : OS 1 t v xs.length (ints xs) A) (hG : VLe G0 G) :
    ∃ G', VLe G G' ∧ IntS G' v xs ∧ New 1 t G0 G' v xs.length (ints xs) ∧ (∀ b ∈ bl v, G b = none) ∧ K e w G' L :=
  ⟨addV G A, hK.addV_le, ho.ints, New.own ho hK hG, osBlG ho hK, hK.pub⟩
theorem K.pubEF {α : Type} {c : α → List Value} {xs : List α} (hc : ∀ x, (c x).length = sz) (hK : K e w G (A ++ L)) (ho : OS sz t v xs.length (xs.flatMap c) A) (hG : VLe G0 G) :
    ∃ G', VLe G G' ∧ SlR sz (EF c) G' v xs ∧ New sz t G0 G' v xs.length (xs.flatMap c) ∧ (∀ b ∈ bl v, G b = none) ∧ K e w G' L :=
  ⟨addV G A, hK.addV_le, ho.ef hc, New.own ho hK hG, osBlG ho hK, hK.pub⟩
structure RgNew (tN tS : TypeId) (G0 G : View) (v : Value) (rs : List Rn) : Prop where
  out : New 3 tN G0 G v rs.length (rs.flatMap rc)
  inn : RnF tS G0 G rs
  nd : (bl v ++ rs.flatMap fun x => bl x.2.2.1).Nodup
theorem RgNew.mono (h : RgNew tN tS G0 G v rs) (hG : VLe G G') : RgNew tN tS G0 G' v rs := ⟨h.out.mono hG, h.inn.mono hG, h.nd⟩
theorem RgNew.older (h : RgNew tN tS G1 G v rs) (hG : VLe G0 G1) : RgNew tN tS G0 G v rs := ⟨h.out.older hG, h.inn.older hG, h.nd⟩
theorem RgNew.bk (h : RgNew tN tS G0 G v rs) : Bks G (bl v ++ rs.flatMap fun x => bl x.2.2.1) := ⟨h.nd, fun b hb => by
  rcases List.mem_append.1 hb with hb | hb
  · exact (h.out.fresh b hb).2
  · exact h.inn.bk.2 b hb⟩
theorem RgNew.empty (hv : SlW v 0) : RgNew tN tS G0 G v [] := ⟨New.empty hv, RnF.nil, by rw [hv.bl]; exact List.nodup_nil⟩
theorem OR.pubF (h : OR G t v rs A) (hin : RnF tS G0 G rs) (hK : K e w G (A ++ L)) (hG : VLe G0 G) :
    ∃ G', VLe G G' ∧ RngS G' v rs ∧ RgNew t tS G0 G' v rs ∧ K e w G' L := by
  have hN := New.own h.os hK hG
  refine ⟨addV G A, hK.addV_le, h.fr hK, ⟨hN, hin.mono hK.addV_le, ?_⟩, hK.pub⟩
  exact (Bks.app hin.bk hN.bk hK.addV_le (osBlG h.os hK)).1
theorem RnF.snoc {x : Rn} (h : RnF t G0 G rs) (hx : New 1 t G0 G' x.2.2.1 x.2.2.2.length (ints x.2.2.2)) (hG : VLe G G') (hb : ∀ b ∈ bl x.2.2.1, G b = none) : RnF t G0 G' (rs ++ [x]) :=
  (h.cons hx hG hb).perm List.perm_append_comm
/-! what is owned or empty -/
theorem OZ.len (h : OZ sz t v m cs A) : SlLen v m := h.slw.len
theorem OZ.one (h : OZ sz t v m cs A) : one v = true := h.slw.one
theorem SlW.nilI {G : View} {v : Value} {α : Type} {E : View → List Value → α → Prop} {sz : Nat} (h : SlW v 0) : SlR sz E G v [] := ⟨h, fun i x hx => by simp at hx⟩
theorem addV_part (hK : K e w G (A ++ L)) (hs : ∀ x ∈ B, x ∈ A) (hn : (B.map (·.1)).Nodup) : VLe (addV G B) (addV G A) := by
  intro b o h
  have hA : (A.map (·.1)).Nodup := by have := hK.nodup; rw [List.map_append] at this; exact (List.nodup_append.1 this).1
  by_cases hb : ∃ o', (b, o') ∈ B
  · obtain ⟨o', ho'⟩ := hb
    rw [addV_mem hn ho'] at h
    cases h
    exact addV_mem hA (hs _ ho')
  · have e1 : addV G B b = G b := by
      unfold addV
      cases hf : B.find? (fun x => x.1 == b) with
      | none => rfl
      | some x =>
        exfalso; apply hb
        have h1 := List.find?_some hf
        have h2 := List.mem_of_find?_eq_some hf
        simp only [beq_iff_eq] at h1
        exact ⟨x.2, by rw [← h1]; exact h2⟩
    rw [e1] at h
    exact hK.addV_le b o h
theorem OZ.ints (hK : K e w G (A ++ L)) (h : OZ 1 t v xs.length (ints xs) B) (hs : ∀ x ∈ B, x ∈ A) : IntS (addV G A) v xs := by
  rcases h with h | ⟨h1, _, _, h4⟩
  · exact (h.ints (G := G)).mono (addV_part hK hs h.nodup)
  · cases xs with
    | nil => exact h4.nilI
    | cons x xs => simp at h1
theorem OZ.ef {α : Type} {c : α → List Value} {xs : List α} (hc : ∀ x, (c x).length = sz) (hK : K e w G (A ++ L)) (h : OZ sz t v xs.length (xs.flatMap c) B) (hs : ∀ x ∈ B, x ∈ A) : SlR sz (EF c) (addV G A) v xs := by
  rcases h with h | ⟨h1, _, _, h4⟩
  · exact EF.mono (h.ef (G := G) hc) (addV_part hK hs h.nodup)
  · cases xs with
    | nil => exact h4.nilI
    | cons x xs => simp at h1
/-! marks -/
def lmk (k : Int) (n : Nat) : List Ls := (List.range n).map fun (i : Nat) => (k + 3 * (i : Int), k + 3 * (i : Int) + 1, k + 3 * (i : Int) + 2)
def imk (k : Int) (n : Nat) : List It := (List.range n).map fun (i : Nat) => (k + 2 * (i : Int), k + 2 * (i : Int) + 1)
theorem lmk_len (k : Int) (n : Nat) : (lmk k n).length = n := by simp [lmk]
theorem imk_len (k : Int) (n : Nat) : (imk k n).length = n := by simp [imk]
theorem lmk_get {k : Int} {n i : Nat} (h : i < (lmk k n).length) : (lmk k n)[i] = (k + 3 * (i : Int), k + 3 * (i : Int) + 1, k + 3 * (i : Int) + 2) := by simp [lmk]
theorem imk_get {k : Int} {n i : Nat} (h : i < (imk k n).length) : (imk k n)[i] = (k + 2 * (i : Int), k + 2 * (i : Int) + 1) := by simp [imk]
theorem lmk_set {ls : List Ls} {k : Int} {i m : Nat} (hm : ls.length = m) (hi : i < m) :
    (lmk k i ++ ls.drop i).set i (k + 3 * (i : Int), k + 3 * (i : Int) + 1, k + 3 * (i : Int) + 2) = lmk k (i + 1) ++ ls.drop (i + 1) := by
  have hs : lmk k (i + 1) = lmk k i ++ [(k + 3 * (i : Int), k + 3 * (i : Int) + 1, k + 3 * (i : Int) + 2)] := by unfold lmk; rw [List.range_succ, List.map_append]; rfl
  rw [List.set_append_right _ _ (by rw [lmk_len]; omega), lmk_len, Nat.sub_self, List.drop_eq_getElem_cons (by omega), List.set_cons_zero, hs, List.append_assoc]; rfl
theorem imk_set {ls : List It} {k : Int} {i m : Nat} (hm : ls.length = m) (hi : i < m) :
    (imk k i ++ ls.drop i).set i (k + 2 * (i : Int), k + 2 * (i : Int) + 1) = imk k (i + 1) ++ ls.drop (i + 1) := by
  have hs : imk k (i + 1) = imk k i ++ [(k + 2 * (i : Int), k + 2 * (i : Int) + 1)] := by unfold imk; rw [List.range_succ, List.map_append]; rfl
  rw [List.set_append_right _ _ (by rw [imk_len]; omega), imk_len, Nat.sub_self, List.drop_eq_getElem_cons (by omega), List.set_cons_zero, hs, List.append_assoc]; rfl
def nsz (rs : List Rn) : Nat := (rs.map fun x => 2 + x.2.2.2.length).sum
theorem nsz_succ {rs : List Rn} {i : Nat} (hi : i < rs.length) : nsz (rs.take (i + 1)) = nsz (rs.take i) + 2 + rs[i].2.2.2.length := by
  unfold nsz
  rw [List.take_succ_eq_append_getElem hi, List.map_append, List.sum_append]; simp; omega
theorem nsz_le {rs : List Rn} {i : Nat} : nsz (rs.take i) ≤ nsz rs := by
  have : nsz rs = nsz (rs.take i) + nsz (rs.drop i) := by unfold nsz; rw [← List.sum_append, ← List.map_append, List.take_append_drop]
  omega
theorem nsz_set {rs : List Rn} {i : Nat} {x : Rn} (hi : i < rs.length) (hx : x.2.2.2.length = rs[i].2.2.2.length) (j : Nat) : nsz ((rs.set i x).take j) = nsz (rs.take j) := by
  unfold nsz
  have e : (rs.set i x).map (fun x => 2 + x.2.2.2.length) = rs.map fun x => 2 + x.2.2.2.length := by
    rw [List.map_set, hx]
    refine List.ext_getElem (by simp) fun j h2 h3 => ?_
    rw [List.getElem_set]
    split
    · rename_i hij; subst hij; simp
    · rfl
  rw [List.map_take, e, ← List.map_take]
def NMk (k : Int) (rs : List Rn) (n : Nat) : Prop := ∀ i, (hi : i < rs.length) → i < n → rs[i].1 = k + nsz (rs.take i) ∧ rs[i].2.1 = k + nsz (rs.take i) + 1 ∧ rs[i].2.2.2 = marks (k + nsz (rs.take i) + 2) rs[i].2.2.2.length
theorem NMk.step {k : Int} {rs : List Rn} {i : Nat} {x : Rn} (h : NMk k rs i) (hi : i < rs.length) (h1 : x.1 = k + nsz (rs.take i)) (h2 : x.2.1 = k + nsz (rs.take i) + 1) (h3 : x.2.2.2 = marks (k + nsz (rs.take i) + 2) rs[i].2.2.2.length) :
    NMk k (rs.set i x) (i + 1) := by
  have hl : x.2.2.2.length = rs[i].2.2.2.length := by rw [h3, marks_len]
  intro j hj hji
  rw [nsz_set hi hl]
  rw [List.length_set] at hj
  by_cases hij : i = j
  · subst hij
    simp only [List.getElem_set_self]
    exact ⟨h1, h2, by rw [hl]; exact h3⟩
  · simp only [List.getElem_set_ne hij]
    exact h j hj (by omega)
theorem flat_at {os : List Ron} {i : Nat} (hi : i < os.length) : flat (uso os) = flat (uso (os.take i)) ++ (os[i].2.2.2.2 ++ flat (uso (os.drop (i + 1)))) := by
  have e : os = os.take i ++ os[i] :: os.drop (i + 1) := by rw [← List.drop_eq_getElem_cons hi, List.take_append_drop]
  conv => lhs; rw [e]
  unfold flat uso
  rw [List.map_append, List.map_cons, List.flatMap_append, List.flatMap_cons]
theorem flat_put {os : List Ron} {i : Nat} (hi : i < os.length) (o : Ron) : flat (uso (os.set i o)) = flat (uso (os.take i)) ++ (o.2.2.2.2 ++ flat (uso (os.drop (i + 1)))) := by
  have e : os.set i o = os.take i ++ o :: os.drop (i + 1) := by rw [List.set_eq_take_append_cons_drop, if_pos hi]
  rw [e]
  unfold flat uso
  rw [List.map_append, List.map_cons, List.flatMap_append, List.flatMap_cons]
theorem toRs_set (os : List Ron) (i : Nat) (o : Ron) : toRs (os.set i o) = (toRs os).set i (toR o) := by unfold toRs; rw [List.map_set]
theorem toRs_get {os : List Ron} {i : Nat} (hi : i < os.length) : (toRs os)[i]'(by rw [toRs_len]; exact hi) = toR os[i] := by unfold toRs; rw [List.getElem_map]
theorem OZS.at {os : List Ron} (h : OZS t (uso os)) {i : Nat} (hi : i < os.length) : OZ 1 t os[i].2.2.1 os[i].2.2.2.1.length (ints os[i].2.2.2.1) os[i].2.2.2.2 :=
  h os[i].2.2 (List.mem_map.2 ⟨_, List.getElem_mem hi, rfl⟩)
theorem OZS.put {os : List Ron} (h : OZS t (uso os)) {i : Nat} {o : Ron} (ho : OZ 1 t o.2.2.1 o.2.2.2.1.length (ints o.2.2.2.1) o.2.2.2.2) : OZS t (uso (os.set i o)) := by
  intro p hp
  obtain ⟨q, hq, rfl⟩ := List.mem_map.1 hp
  rcases List.mem_or_eq_of_mem_set hq with hq | rfl
  · exact h _ (List.mem_map.2 ⟨q, hq, rfl⟩)
  · exact ho
def wsz (wd : Wd) (rs : List Rn) : Nat := nsz rs + (3 * wd.leases.length + (2 * wd.items.length + (wd.scan.2.length + wd.since.length)))
structure WMk (k : Int) (wd : Wd) (rs : List Rn) : Prop where
  ring : NMk k rs rs.length
  leases : wd.leases = lmk (k + nsz rs) wd.leases.length
  items : wd.items = imk (k + nsz rs + 3 * wd.leases.length) wd.items.length
  told : wd.scan.2 = marks (k + nsz rs + 3 * wd.leases.length + 2 * wd.items.length) wd.scan.2.length
  since : wd.since = marks (k + nsz rs + 3 * wd.leases.length + 2 * wd.items.length + wd.scan.2.length) wd.since.length
/-! a world of one's own, read -/
theorem flat_mem {os : List Ron} {o : Ron} (h : o ∈ os) {x : Nat × Obj} (hx : x ∈ o.2.2.2.2) : x ∈ flat (uso os) :=
  List.mem_flatMap.2 ⟨o.2.2, List.mem_map.2 ⟨o, h, rfl⟩, hx⟩
theorem WdT.wds {lc : Ls → List Value} (hlc : ∀ x, (lc x).length = 3) {tN tL tI tS : TypeId} {W : Wv} {wd : Wd} {os : List Ron} {AR AL AI AT AS : Own} (h : WdT lc tN tL tI tS W wd os AR AL AI AT AS)
    (hK : K e w G ((AR ++ (flat (uso os) ++ (AL ++ (AI ++ (AT ++ AS))))) ++ L)) (h1 : W.now = wd.now) (h2 : rgl (toRs os) = wd.ring) (h3 : W.next = wd.scan.1) :
    WdS (addV G (AR ++ (flat (uso os) ++ (AL ++ (AI ++ (AT ++ AS)))))) lc W wd (toRs os) := by
  refine ⟨h1, ⟨?_, ?_⟩, h2, ?_, ?_, h3, ?_, ?_⟩
  · refine OZ.ef (t := tN) (B := AR) rc_len hK ?_ fun x hx => by simp only [List.mem_append]; exact .inl hx
    rw [toRs_len]; exact h.ring
  · intro x hx
    obtain ⟨o, ho, rfl⟩ := List.mem_map.1 hx
    refine OZ.ints (t := tS) (B := o.2.2.2.2) hK (h.inn _ (List.mem_map.2 ⟨o, ho, rfl⟩)) fun y hy => ?_
    simp only [List.mem_append]; exact .inr (.inl (flat_mem ho hy))
  · exact OZ.ef (t := tL) (B := AL) hlc hK h.leases fun x hx => by simp only [List.mem_append]; exact .inr (.inr (.inl hx))
  · exact OZ.ef (t := tI) (B := AI) (fun _ => rfl) hK h.items fun x hx => by simp only [List.mem_append]; exact .inr (.inr (.inr (.inl hx)))
  · exact OZ.ints (t := tS) (B := AT) hK h.told fun x hx => by simp only [List.mem_append]; exact .inr (.inr (.inr (.inr (.inl hx))))
  · exact OZ.ints (t := tS) (B := AS) hK h.since fun x hx => by simp only [List.mem_append]; exact .inr (.inr (.inr (.inr (.inr hx))))
theorem WdF.zero {lc : Ls → List Value} {tN tL tI tS : TypeId} {W : Wv} (h1 : W.r = .slice none 0 0 := by rfl) (h2 : W.l = .slice none 0 0 := by rfl) (h3 : W.i = .slice none 0 0 := by rfl) (h4 : W.t = .slice none 0 0 := by rfl) (h5 : W.s = .slice none 0 0 := by rfl) : WdF lc tN tL tI tS G0 G W wdZ [] :=
  ⟨h1 ▸ New.nil0, RnF.nil, h2 ▸ New.nil0, h3 ▸ New.nil0, h4 ▸ New.nil0, h5 ▸ New.nil0, by unfold wb; rw [h1, h2, h3, h4, h5]; exact List.nodup_nil⟩
theorem WdF.of {lc : Ls → List Value} {tN tL tI tS : TypeId} {W : Wv} {wd : Wd} (hr : RgNew tN tS G0 G W.r rs) (hl : New 3 tL G0 G W.l wd.leases.length (wd.leases.flatMap lc)) (hi : New 2 tI G0 G W.i wd.items.length (wd.items.flatMap ic))
    (ht : New 1 tS G0 G W.t wd.scan.2.length (ints wd.scan.2)) (hs : New 1 tS G0 G W.s wd.since.length (ints wd.since)) (hn : (wb W rs).Nodup) : WdF lc tN tL tI tS G0 G W wd rs :=
  ⟨hr.out, hr.inn, hl, hi, ht, hs, hn⟩
theorem K.back {w0 : World} {L0 : Own} (hK0 : K e w0 G (A ++ L0)) (hK : K e w G' L) (h : VLe (addV G A) G') : ∃ G'', VLe G G'' ∧ K e w G'' (A ++ L) := by
  have hn : (A.map (·.1)).Nodup := by have := hK0.nodup; rw [List.map_append] at this; exact (List.nodup_append.1 this).1
  refine ⟨_, subV_le (hK0.addV_le.trans h) (bs := A.map (·.1)) fun b hb => ?_, hK.take (A := A) (fun x hx => h _ _ (addV_in hK0 hx)) hn⟩
  obtain ⟨x, hx, rfl⟩ := List.mem_map.1 hb
  exact hK0.sep x.1 x.2 (List.mem_append_left _ hx)
theorem nsz_rg (rs : List Rn) : nsz rs = ((rgl rs).map fun n => 2 + n.2.2.length).sum := by unfold nsz rgl; rw [List.map_map]; rfl
theorem sum_le {l : List Nat} {c : Nat} (h : ∀ x ∈ l, x ≤ c) : l.sum ≤ c * l.length := by
  induction l with
  | nil => simp
  | cons x l ih =>
    have h1 := h x (List.mem_cons_self ..)
    have h2 := ih fun y hy => h y (List.mem_cons_of_mem _ hy)
    rw [List.sum_cons, List.length_cons, Nat.mul_succ]; omega
def StpF (e : World) (G0 G : View) (t tS s : Nat) (sb : Nat) (L : Own) (o : Option (List Nd)) (r : Value) (w : World) : Prop :=
  (r = .bool false ∧ o = none ∧ K e w G L) ∨ ∃ G' v rs A, r = .bool true ∧ o = some (rgl rs) ∧ VLe G G' ∧ OR G' t v rs A ∧ RnF tS G0 G' rs ∧ K e w G' ((sb, row [v] s) :: (A ++ L))
theorem stpf_bool {s sb : Nat} {o : Option (List Nd)} {r : Value} (h : StpF e G0 G t tS s sb L o r w) : ∃ b, r = .bool b := by
  rcases h with ⟨rfl, _⟩ | ⟨_, _, _, _, rfl, _⟩ <;> exact ⟨_, rfl⟩
def RgF (tN tS : TypeId) (G0 G : View) (r : Value) (o : List Nd × Bool) : Prop := ∃ v rs, r = .tuple #[v, .bool o.2] ∧ RngS G v rs ∧ rgl rs = o.1 ∧ RgNew tN tS G0 G v rs
theorem RgF.to {b : Bool} {x : List Nd} {o : List Nd × Bool} (ho : o = (x, b)) (h : RngS G v rs) (hr : rgl rs = x) (hn : RgNew tN tS G0 G v rs) : RgF tN tS G0 G (.tuple #[v, .bool b]) o := by
  subst ho; exact ⟨v, rs, rfl, h, hr, hn⟩
theorem take_set_succ {α : Type} {xs : List α} {i : Nat} {x : α} (hi : i < xs.length) : (xs.set i x).take (i + 1) = xs.take i ++ [x] := by
  rw [List.take_succ_eq_append_getElem (by rw [List.length_set]; exact hi), List.getElem_set_self, List.take_set, List.set_eq_of_length_le (by rw [List.length_take]; omega)]
end
end Go.Ro
