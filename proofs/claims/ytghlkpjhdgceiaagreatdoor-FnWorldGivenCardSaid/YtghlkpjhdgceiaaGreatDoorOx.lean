/- Events of worlds and what they change, in plain lists. Stabilizing a ring, plain: what a node's whole round does. Slices of the walk's own, or empty ones without room; worlds whose items are the walk's own. Conditions: those that each row states. -/
import Derived.Test.YtghlkpjhdgceiaaGreatDoorDoM
import Derived.Test.YtghlkpjhdgceiaaGreatDoorRgT
import Derived.Test.YtghlkpjhdgceiaaGreatDoorWdM
import Derived.Test.YtghlkpjhdgceiaaGreatDoorAo
namespace Go.Ro

theorem lAt_keys {ls ls' : List Ls} (h : ls'.map (·.1) = ls.map (·.1)) (k : Int) : lAt ls' k = lAt ls k := by
  have e : ∀ xs : List Ls, xs.findIdx? (fun x => decide (k ≤ x.1)) = (xs.map (·.1)).findIdx? (fun x => decide (k ≤ x)) := fun xs => by rw [List.findIdx?_map]; rfl
  unfold lAt; rw [e ls', e ls, h]
theorem set_keys {ls : List Ls} {i : Nat} {n : Ls} (hi : i < ls.length) (h : n.1 = ls[i].1) : (ls.set i n).map (·.1) = ls.map (·.1) := by
  rw [List.map_set, h, show ls[i].1 = (ls.map (·.1))[i]'(by simpa using hi) by simp]; exact List.set_getElem_self _
theorem lsAt_set {ls : List Ls} {i : Nat} {n : Ls} (hi : i < ls.length) (h : n.1 = ls[i].1) (k : Int) : lsAt (ls.set i n) k = if lAt ls k = i then n else lsAt ls k := by
  unfold lsAt
  rw [lAt_keys (set_keys hi h), List.getD_eq_getElem?_getD, List.getElem?_set]
  split
  · next h1 => rw [if_pos h1.symm]; rfl
  · next h1 => rw [if_neg (fun h => h1 h.symm), ← List.getD_eq_getElem?_getD]
theorem lsAt_find (ls : List Ls) (k : Int) : lsAt ls k = ((ls.find? (fun x => decide (k ≤ x.1))).or ls.head?).getD (0, 0, 0) := by
  rcases lAt_cases ls k with ⟨h1, h2⟩ | ⟨h1, h2, h3⟩
  · have : ls.find? (fun x => decide (k ≤ x.1)) = none := by
      rw [List.find?_eq_none]; intro x hx; have := h2 x hx; simp; omega
    rw [this]; unfold lsAt; rw [h1]
    cases ls <;> rfl
  · have : ls.find? (fun x => decide (k ≤ x.1)) = some ls[lAt ls k] := by
      rw [List.find?_eq_some_iff_getElem]
      refine ⟨by simpa using h2, lAt ls k, h1, rfl, fun j hj => ?_⟩
      have := h3 ls[j] (List.mem_take_iff_getElem.2 ⟨j, by omega, rfl⟩)
      simp; omega
    rw [this, ← lsAt_eq h1]; rfl
/-- a lease is put in -/
theorem lsAt_ins {A B : List Ls} {n : Ls} (hA : ∀ x ∈ A, x.1 < n.1) (hB : ∀ x ∈ B, n.1 ≤ x.1) (k : Int) :
    lsAt (A ++ n :: B) k = lsAt (A ++ B) k ∨ lsAt (A ++ n :: B) k = n ∧ lsAt (A ++ B) k = lsAt (A ++ B) n.1 := by
  have hd : ∀ j : Int, j ≤ n.1 → B.find? (fun x => decide (j ≤ x.1)) = B.head? := by
    intro j hj
    cases B with
    | nil => rfl
    | cons x xs => rw [List.find?_cons_of_pos (by have := hB x (List.mem_cons_self ..); simp; omega)]; rfl
  have hn : A.find? (fun x => decide (n.1 ≤ x.1)) = none := by
    rw [List.find?_eq_none]; intro x hx; have := hA x hx; simp; omega
  rw [lsAt_find (A ++ n :: B), lsAt_find (A ++ B) k, lsAt_find (A ++ B) n.1]
  simp only [List.find?_append, hn, Option.none_or, hd n.1 (Int.le_refl _)]
  cases hk : A.find? (fun x => decide (k ≤ x.1)) with
  | some x => left; rfl
  | none =>
    simp only [Option.none_or]
    by_cases hc : k ≤ n.1
    · right; rw [List.find?_cons_of_pos (by simpa using hc), hd k hc]; exact ⟨rfl, rfl⟩
    · rw [List.find?_cons_of_neg (by simpa using hc)]
      cases hb : B.find? (fun x => decide (k ≤ x.1)) with
      | some x => left; rfl
      | none =>
        simp only [Option.none_or]
        cases A with
        | nil => right; exact ⟨rfl, by cases B <;> rfl⟩
        | cons x xs => left; rfl
theorem lsAt_ins_self {A B : List Ls} {n : Ls} (hA : ∀ x ∈ A, x.1 < n.1) : lsAt (A ++ n :: B) n.1 = n := by
  have hn : A.find? (fun x => decide (n.1 ≤ x.1)) = none := by
    rw [List.find?_eq_none]; intro x hx; have := hA x hx; simp; omega
  rw [lsAt_find, List.find?_append, hn, List.find?_cons_of_pos (by simp)]; rfl
theorem cutA {ls : List Ls} {b : Int} (h : LsOk ls) : ls = ls.takeWhile (fun x => decide (x.1 < b)) ++ ls.dropWhile (fun x => decide (x.1 < b)) ∧ (∀ x ∈ ls.takeWhile (fun x => decide (x.1 < b)), x.1 < b) ∧ (∀ x ∈ ls.dropWhile (fun x => decide (x.1 < b)), b ≤ x.1) := by
  refine ⟨List.takeWhile_append_dropWhile.symm, fun x hx => by simpa using List.all_eq_true.1 List.all_takeWhile x hx, ?_⟩
  have hp := h.2.2
  generalize hd : ls.dropWhile (fun x => decide (x.1 < b)) = D
  have hs : D.Sublist ls := hd ▸ List.dropWhile_sublist _
  have hp' := hp.sublist hs
  cases D with
  | nil => simp
  | cons y ys =>
    have hy : b ≤ y.1 := by
      have := List.head?_dropWhile_not (fun x : Ls => decide (x.1 < b)) ls
      rw [hd] at this; simpa using this
    intro x hx
    rcases List.mem_cons.1 hx with rfl | hx
    · exact hy
    · have := (List.pairwise_cons.1 hp').1 x hx; simp only at this; omega
/-- what a hand-over changes -/
theorem handL_at {ls x : List Ls} {fr b to un : Int} (h : LsOk ls) (hx : handL ls fr b to un = some x) :
    (lsAt ls b).2.1 = fr ∧ lsAt x b = (b, to, un) ∧ ∀ k, lsAt x k = lsAt ls k ∨ lsAt x k = (b, to, un) ∧ lsAt ls k = lsAt ls b := by
  unfold handL at hx
  split at hx
  · cases hx
  · next h1 =>
    have h1' : (lsAt ls b).2.1 = fr := by simpa using h1
    split at hx
    · next h2 =>
      cases hx
      have hi : lAt ls b < ls.length := lAt_lt (by have := h.1.1; omega)
      have he : ((b, to, un) : Ls).1 = ls[lAt ls b].1 := by rw [lsAt_eq hi]; exact h2.symm
      refine ⟨h1', by rw [lsAt_set hi he, if_pos rfl], fun k => ?_⟩
      rw [lsAt_set hi he]
      by_cases hk : lAt ls k = lAt ls b
      · rw [if_pos hk]; exact .inr ⟨rfl, by unfold lsAt; rw [hk]⟩
      · rw [if_neg hk]; exact .inl rfl
    · split at hx
      · cases hx
      · cases hx
        obtain ⟨e, hA, hB⟩ := cutA (b := b) h
        refine ⟨h1', lsAt_ins_self (n := (b, to, un)) hA, fun k => ?_⟩
        have := lsAt_ins (n := (b, to, un)) hA hB k
        rw [← e] at this
        exact this
theorem takeL_at {ls x : List Ls} {key to now un : Int} (h : LsOk ls) (hx : takeL ls key to now un = some x) :
    (lsAt ls key).2.2 < now ∧ lsAt x key = ((lsAt ls key).1, to, un) ∧ ∀ k, lsAt x k = lsAt ls k ∨ lsAt x k = ((lsAt ls key).1, to, un) ∧ lsAt ls k = lsAt ls key := by
  unfold takeL at hx
  split at hx
  · cases hx
  · next h1 =>
    cases hx
    have hi : lAt ls key < ls.length := lAt_lt (by have := h.1.1; omega)
    have he : (((lsAt ls key).1, to, un) : Ls).1 = ls[lAt ls key].1 := by rw [lsAt_eq hi]
    refine ⟨by omega, by rw [lsAt_set hi he, if_pos rfl], fun k => ?_⟩
    rw [lsAt_set hi he]
    by_cases hk : lAt ls k = lAt ls key
    · rw [if_pos hk]; exact .inr ⟨rfl, by unfold lsAt; rw [hk]⟩
    · rw [if_neg hk]; exact .inl rfl
theorem renewL_at {ls : List Ls} (h : LsOk ls) (ow now un k : Int) : lsAt (renewL ls ow now un) k = rn1 ow now un (lsAt ls k) := by
  have hk : (renewL ls ow now un).map (·.1) = ls.map (·.1) := by
    unfold renewL; rw [List.map_map]; refine List.map_congr_left fun x _ => ?_
    unfold Function.comp rn1; split <;> rfl
  have hi : lAt ls k < ls.length := lAt_lt (by have := h.1.1; omega)
  have e := lsAt_eq hi
  unfold lsAt at e ⊢
  rw [lAt_keys hk, ← e]
  unfold renewL
  rw [List.getD_eq_getElem?_getD, List.getElem?_map, List.getElem?_eq_getElem hi]; rfl

theorem doW_le {wd : Wd} {kd a b c : Int} (hk : kd = 7 ∨ kd = 8 ∨ kd = 9) : doW wd kd a b c = leW wd kd a b c := if_pos hk
theorem doW_le7 {wd : Wd} {kd a b c : Int} (hk : ¬ (kd = 7 ∨ kd = 8 ∨ kd = 9)) : (doW wd kd a b c).leases = wd.leases := by
  unfold doW; rw [if_neg hk]
  split
  · rfl
  · split
    · unfold itW; split <;> rfl
    · split
      · rfl
      · split
        · unfold scW; split <;> rfl
        · unfold rgW; split <;> rfl
theorem tkL_ls {ls : List Ls} {ok : Prop} {o : Option (List Ls)} (h : (tkL ls ok o).2 = true) : LsOk ls ∧ ok ∧ o = some (tkL ls ok o).1 := by
  by_cases hc : LsOk ls ∧ ok
  · refine ⟨hc.1, hc.2, ?_⟩
    cases o with
    | none => rw [tkL_none hc rfl] at h; cases h
    | some x => rw [tkL_some hc rfl]
  · rw [tkL_no hc] at h; cases h
/-- the leases behind an event -/
theorem le_cases (wd : Wd) (kd a b c : Int) : (doW wd kd a b c).leases = wd.leases ∨ a ∈ ids wd.ring ∧
    (kd = 7 ∧ c ∈ ids wd.ring ∧ Pt b ∧ own wd b = a ∧ handL wd.leases a b c (utl wd.now) = some (doW wd kd a b c).leases ∨
     kd = 8 ∧ takeL wd.leases b a wd.now (utl wd.now) = some (doW wd kd a b c).leases ∨
     kd = 9 ∧ renewL wd.leases a wd.now (utl wd.now) = (doW wd kd a b c).leases) := by
  by_cases hk : kd = 7 ∨ kd = 8 ∨ kd = 9
  · rw [doW_le hk]
    by_cases hb : (leO wd kd a b c).2 = true
    · have e : (leW wd kd a b c).leases = (leO wd kd a b c).1 := by unfold leW; rw [if_pos hb]
      rw [e]
      unfold leO at hb ⊢
      by_cases ha : a ∈ ids wd.ring
      · rw [if_neg (by simpa using ha)] at hb ⊢
        rcases hk with rfl | rfl | rfl
        · rw [if_pos rfl] at hb ⊢
          by_cases hc : c ∈ ids wd.ring ∧ Pt b ∧ own wd b = a
          · rw [if_pos hc] at hb ⊢
            exact .inr ⟨ha, .inl ⟨rfl, hc.1, hc.2.1, hc.2.2, (tkL_ls hb).2.2⟩⟩
          · rw [if_neg hc] at hb; cases hb
        · rw [if_neg (by decide), if_pos rfl] at hb ⊢
          exact .inr ⟨ha, .inr (.inl ⟨rfl, (tkL_ls hb).2.2⟩)⟩
        · rw [if_neg (by decide), if_neg (by decide), if_pos rfl] at hb ⊢
          split
          · exact .inr ⟨ha, .inr (.inr ⟨rfl, rfl⟩)⟩
          · exact .inl rfl
      · rw [if_pos (by simpa using ha)] at hb; cases hb
    · have e : leW wd kd a b c = wd := if_neg hb
      rw [e]; exact .inl rfl
  · exact .inl (doW_le7 hk)
theorem WdOk.idPt {wd : Wd} (h : WdOk wd) {a : Int} (ha : a ∈ ids wd.ring) : Pt a := h.2.1.1.ptId ha
theorem leW_out {wd : Wd} {kd a b c : Int} (ha : a ∉ ids wd.ring) : leW wd kd a b c = wd := leW_no (x := wd.leases) (by unfold leO; rw [if_pos ha])
theorem rg_pos {wd : Wd} (h : WdOk wd) : 0 < wd.ring.length := by
  have h1 := h.2.1.2.2
  unfold prin at h1
  have h2 := List.length_filter_le (fun k => !(wd.ring.any (fun n => skn n k))) (ids wd.ring)
  have h3 : (ids wd.ring).length = wd.ring.length := by simp [ids]
  omega
theorem ids_at {rs : List Rn} {m : Nat} (h : m < rs.length) : rs[m].1 ∈ ids (rgl rs) := by
  unfold ids rgl; rw [List.map_map]; exact List.mem_map.2 ⟨rs[m], List.getElem_mem h, rfl⟩
theorem own_set {wd : Wd} (h : WdOk wd) {x : List Ls} {k id c0 : Int} (hx : lsAt x k = (c0, id, utl wd.now)) (hid : id ∈ ids wd.ring) : own { wd with leases := x } k = id := by
  unfold own
  simp only [hx]
  have h1 := h.1.2
  rw [if_neg]
  rintro (h' | h')
  · unfold utl at h'; omega
  · exact h' hid
theorem own_ge {wd : Wd} (h : WdOk wd) {k a : Int} (ho : own wd k = a) (ha : 0 ≤ a) : wd.now ≤ (lsAt wd.leases k).2.2 ∧ (lsAt wd.leases k).2.1 = a ∧ a ∈ ids wd.ring := by
  unfold own at ho
  by_cases hc : (lsAt wd.leases k).2.2 < wd.now ∨ (lsAt wd.leases k).2.1 ∉ ids wd.ring
  · rw [if_pos hc] at ho; omega
  · rw [if_neg hc] at ho
    refine ⟨Int.not_lt.1 fun h' => hc (.inl h'), ho, ?_⟩
    rw [← ho]; exact Classical.not_not.1 fun h' => hc (.inr h')
theorem own_cases (wd : Wd) (k : Int) : own wd k = -1 ∨ own wd k ∈ ids wd.ring := by
  unfold own
  by_cases hc : (lsAt wd.leases k).2.2 < wd.now ∨ (lsAt wd.leases k).2.1 ∉ ids wd.ring
  · rw [if_pos hc]; exact .inl rfl
  · rw [if_neg hc]; exact .inr (Classical.not_not.1 fun h' => hc (.inr h'))
theorem handover_law {wd : Wd} (h : WdOk wd) (kd a b c k : Int) : (lsAt wd.leases k).2.1 = (lsAt (doW wd kd a b c).leases k).2.1 ∨
    (kd = 7 ∧ a = (lsAt wd.leases k).2.1 ∧ wd.now ≤ (lsAt wd.leases k).2.2) ∨ (kd = 8 ∧ (lsAt wd.leases k).2.2 < wd.now) := by
  rcases le_cases wd kd a b c with e | ⟨ha, ⟨rfl, _, _, ho, hx⟩ | ⟨rfl, hx⟩ | ⟨rfl, hx⟩⟩
  · rw [e]; exact .inl rfl
  · rcases (handL_at h.wda.ls hx).2.2 k with e | ⟨_, e⟩
    · rw [e]; exact .inl rfl
    · have := own_ge h ho (h.idPt ha).1
      rw [e]; exact .inr (.inl ⟨rfl, this.2.1.symm, this.1⟩)
  · have h1 := takeL_at h.wda.ls hx
    rcases h1.2.2 k with e | ⟨_, e⟩
    · rw [e]; exact .inl rfl
    · rw [e]; exact .inr (.inr ⟨rfl, h1.1⟩)
  · rw [← hx, renewL_at h.wda.ls]
    refine .inl ?_
    unfold rn1; split <;> rfl
theorem given_law {wd : Wd} (h : WdOk wd) (kd a b c k : Int) : (lsAt wd.leases k).2 = (lsAt (doW wd kd a b c).leases k).2 ∨
    ((lsAt (doW wd kd a b c).leases k).2.1 ∈ ids wd.ring ∧ (lsAt (doW wd kd a b c).leases k).2.2 = utl wd.now) := by
  rcases le_cases wd kd a b c with e | ⟨ha, ⟨rfl, hc, _, ho, hx⟩ | ⟨rfl, hx⟩ | ⟨rfl, hx⟩⟩
  · rw [e]; exact .inl rfl
  · rcases (handL_at h.wda.ls hx).2.2 k with e | ⟨e, _⟩
    · rw [e]; exact .inl rfl
    · rw [e]; exact .inr ⟨hc, rfl⟩
  · rcases (takeL_at h.wda.ls hx).2.2 k with e | ⟨e, _⟩
    · rw [e]; exact .inl rfl
    · rw [e]; exact .inr ⟨ha, rfl⟩
  · rw [← hx, renewL_at h.wda.ls]
    unfold rn1 rnw
    split
    · next hc =>
      have hc' : (lsAt wd.leases k).2.1 = a ∧ wd.now ≤ (lsAt wd.leases k).2.2 ∧ (lsAt wd.leases k).2.2 < utl wd.now := by simpa using hc
      exact .inr ⟨by rw [hc'.1]; exact ha, rfl⟩
    · exact .inl rfl
/-- the value of a key -/
def vOf (xs : List It) (k : Int) : Int := ((xs.find? (fun x => decide (x.1 = k))).map (·.2)).getD (-1)
theorem vOf_cons (x : It) (xs : List It) (k : Int) : vOf (x :: xs) k = if x.1 = k then x.2 else vOf xs k := by
  unfold vOf
  by_cases h : x.1 = k
  · rw [List.find?_cons_of_pos (by simpa using h), if_pos h]; rfl
  · rw [List.find?_cons_of_neg (by simpa using h), if_neg h]
theorem vOf_ge {xs : List It} {k : Int} (h : ItOk xs) (hk : k ∈ keys xs) : 0 ≤ vOf xs k := by
  have h1 := h.1; clear h
  induction xs with
  | nil => cases hk
  | cons x xs ih =>
    rw [vOf_cons]
    split
    · exact (h1 x (List.mem_cons_self ..)).1
    · next hn =>
      refine ih ?_ fun y hy => h1 y (List.mem_cons_of_mem _ hy)
      unfold keys at hk ⊢
      rw [List.map_cons, List.mem_cons] at hk
      rcases hk with rfl | hk
      · exact absurd rfl hn
      · exact hk
theorem vOf_other {b c k : Int} (hk : b ≠ k) : ∀ (xs : List It) (p : Bool), vOf (itf b c p xs) k = vOf xs k := by
  intro xs
  induction xs with
  | nil => intro p; cases p <;> (unfold itf; simp [vOf, hk])
  | cons x xs ih =>
    intro p
    have e : ∀ ys, vOf ((if x.1 ≠ b then [x] else []) ++ ys) k = if x.1 = k then x.2 else vOf ys k := by
      intro ys
      by_cases hx : x.1 = b
      · rw [if_neg (by simpa using hx), if_neg (by omega)]; rfl
      · rw [if_pos hx, List.singleton_append, vOf_cons]
    unfold itf
    rw [vOf_cons]
    by_cases h1 : p = false ∧ b ≤ x.1
    · rw [if_pos h1, List.singleton_append, vOf_cons, if_neg hk, e, ih]
    · rw [if_neg h1, List.nil_append, e, ih]
theorem doW_it' {wd : Wd} {kd a b c : Int} (hk : kd = 11 ∨ kd = 12) : doW wd kd a b c = itW wd kd a b c := by
  unfold doW; rw [if_neg (by omega), if_neg (by omega), if_pos hk]
theorem doW_it7 {wd : Wd} {kd a b c : Int} (hk : ¬ (kd = 11 ∨ kd = 12)) : (doW wd kd a b c).items = wd.items := by
  unfold doW
  split
  · unfold leW; split <;> rfl
  · split
    · rfl
    · first | rw [if_neg hk] | skip
      split
      · rfl
      · split
        · unfold scW; split <;> rfl
        · unfold rgW; split <;> rfl
theorem change_law (wd : Wd) (kd a b c k : Int) : vOf (doW wd kd a b c).items k = vOf wd.items k ∨ ((kd = 11 ∨ kd = 12) ∧ b = k ∧ a = own wd k) := by
  by_cases hk : kd = 11 ∨ kd = 12
  · rw [doW_it' hk]
    unfold itW
    split
    · next h =>
      by_cases hb : b = k
      · subst hb; exact .inr ⟨hk, rfl, h.2.1.symm⟩
      · exact .inl (vOf_other hb _ _)
    · exact .inl rfl
  · rw [doW_it7 hk]; exact .inl rfl
theorem since_law (wd : Wd) (kd a b c : Int) (hk : kd ≠ 13) : ∀ s ∈ (doW wd kd a b c).since, s ∈ wd.since := by
  unfold doW
  rw [if_neg hk]
  split
  · unfold leW; split <;> exact fun s h => h
  · split
    · exact fun s h => h
    · split
      · unfold itW; split
        · simp only
          split
          · exact fun s h => (List.mem_filter.1 h).1
          · exact fun s h => h
        · exact fun s h => h
      · split
        · unfold scW; split <;> exact fun s h => h
        · unfold rgW; split <;> exact fun s h => h
theorem begin_law (wd : Wd) (a b c : Int) : (doW wd 13 a b c).since.length = wd.items.length ∧ (doW wd 13 a b c).scan.1 = 0 := by
  unfold doW; rw [if_neg (by omega), if_neg (by omega), if_neg (by omega), if_pos rfl]
  exact ⟨by simp [keys], rfl⟩
theorem hand_law {wd : Wd} (h : WdOk wd) {k to : Int} (hk : Pt k) (hto : to ∈ ids wd.ring) (hl : wd.leases.length ≠ 12) :
    (own wd k < 0 → doW wd 7 (own wd k) k to = wd) ∧ (0 ≤ own wd k → own (doW wd 7 (own wd k) k to) k = to) := by
  rw [doW_le (.inl rfl)]
  constructor
  · intro hn
    refine leW_out fun h' => ?_
    have := (h.idPt h').1; omega
  · intro hn
    have ho := own_ge h rfl hn
    have hok : LsOk wd.leases ∧ Pt (own wd k) ∧ Pt k ∧ Pt to ∧ Tm (utl wd.now) := ⟨h.wda.ls, h.idPt ho.2.2, hk, h.idPt hto, utl_tm h.1⟩
    have e : leO wd 7 (own wd k) k to = tkL wd.leases (Pt (own wd k) ∧ Pt k ∧ Pt to ∧ Tm (utl wd.now)) (handL wd.leases (own wd k) k to (utl wd.now)) := by
      unfold leO; rw [if_neg (fun h' => h' ho.2.2), if_pos rfl, if_pos ⟨hto, hk, rfl⟩]
    obtain ⟨x, hx⟩ : ∃ x, handL wd.leases (own wd k) k to (utl wd.now) = some x := by
      by_cases h2 : (lsAt wd.leases k).1 = k
      · exact ⟨_, handL_2 ho.2.1 h2⟩
      · have := h.wda.ls.1.2
        exact ⟨_, handL_4 ho.2.1 h2 (by omega)⟩
    rw [leW_yes (e.trans (tkL_some hok hx))]
    exact own_set h (handL_at h.wda.ls hx).2.1 hto
theorem put_no {wd : Wd} {k a c : Int} {kd : Int} (hk : kd = 11 ∨ kd = 12) (h : own wd k ≠ a ∨ ¬ 0 ≤ a) : doW wd kd a k c = wd := by
  rw [doW_it' hk]; unfold itW
  refine if_neg fun h' => ?_
  rcases h with h | h
  · exact h h'.2.1
  · exact h h'.2.2.1
theorem fail_law {wd : Wd} (h : WdOk wd) {a b c : Int} (hl : (doW wd 2 a b c).ring.length ≠ wd.ring.length) : 0 ≤ a ∧ a ∉ ids (doW wd 2 a b c).ring := by
  have e : doW wd 2 a b c = rgW wd 2 a b := by
    unfold doW; rw [if_neg (by omega), if_neg (by omega), if_neg (by omega), if_neg (by omega), if_neg (by omega)]
  rw [e] at hl ⊢
  unfold rgW at hl ⊢
  by_cases hb : (rgO wd.ring 2 a b).2 = true
  · rw [if_pos hb]
    have eo : rgO wd.ring 2 a b = tk wd.ring (Pt a) (failR wd.ring a) := by unfold rgO; rw [if_neg (by omega), if_pos rfl]
    simp only [eo] at hb ⊢
    by_cases hp : RgSafe wd.ring ∧ Pt a
    · refine ⟨hp.2.1, ?_⟩
      cases hf : failR wd.ring a with
      | none => rw [hf, tk_none hp] at hb; cases hb
      | some x =>
        rw [tk_some hp]
        unfold failR at hf
        split at hf
        · cases hf
          unfold ids
          rw [List.mem_map]
          rintro ⟨y, hy, hya⟩
          have := (List.mem_filter.1 hy).2
          exact absurd hya (by simpa using this)
        · cases hf
    · rw [tk_no hp] at hb; cases hb
  · rw [if_neg hb] at hl; exact absurd rfl hl
theorem gone_law {wd : Wd} {a : Int} (h0 : 0 ≤ a) (h : a ∉ ids wd.ring) : (∀ k, own wd k ≠ a) ∧ (∀ kd b c, kd = 7 ∨ kd = 8 ∨ kd = 9 ∨ kd = 11 ∨ kd = 12 → doW wd kd a b c = wd) := by
  have h1 : ∀ k, own wd k ≠ a := fun k hk => by
    rcases own_cases wd k with h' | h'
    · omega
    · rw [hk] at h'; exact h h'
  refine ⟨h1, fun kd b c hk => ?_⟩
  by_cases hk' : kd = 11 ∨ kd = 12
  · exact put_no hk' (.inl (h1 b))
  · rw [doW_le (by omega)]; exact leW_out h
end Go.Ro

namespace Go.Ro

def dr (r : List Nd) (id : Int) : List Nd := (dropR r id).getD r
def drN : Nat → List Nd → Int → List Nd
  | 0, r, _ => r
  | n + 1, r, id => drN n (dr r id) id
def ad1 (r : List Nd) (id : Int) : List Nd := (adoptR r id).getD r
def clo1 (r : List Nd) (id : Int) : List Nd :=
  if 0 ≤ (ndAt r (a0 (ndAt r id))).2.1 then (closerR r id (ndAt r (a0 (ndAt r id))).2.1).getD r else r
def not1 (r : List Nd) (id : Int) : List Nd := (notifyR r (a0 (ndAt r id)) id).getD r
def stabR (r : List Nd) (id : Int) : List Nd := not1 (clo1 (ad1 (drN 2 r id) id) id) id

theorem fx_ids {r r' : List Nd} (h : ids r = ids r') (id : Int) : fx r id = fx r' id := by
  have e : ∀ r : List Nd, fx r id = (ids r).findIdx (fun x => x == id) := fun r => by unfold fx ids; rw [List.findIdx_map]; rfl
  rw [e, e, h]
theorem ndAt_setN {r : List Nd} {id : Int} {n : Nd} (hid : id ∈ ids r) (h : n.1 = id) : ndAt (setN r id n) id = n := by
  unfold ndAt
  rw [fx_ids (ids_setN hid h)]
  unfold setN
  rw [List.getD_eq_getElem?_getD, List.getElem?_set_self (fx_lt hid)]; rfl
theorem dr_none {r : List Nd} {id : Int} (h : dropR r id = none) : dr r id = r := by unfold dr; rw [h]; rfl
theorem dr_safe {r : List Nd} {id : Int} (h : RgSafe r) : RgSafe (dr r id) := by
  unfold dr; cases hd : dropR r id with
  | none => exact h
  | some x => exact dropR_safe h hd
theorem dr_ids {r : List Nd} {id : Int} : ids (dr r id) = ids r := by
  unfold dr dropR; split
  · next h => exact ids_setN h.1 rfl
  · rfl
theorem drN_fix {r : List Nd} {id : Int} (h : dr r id = r) : ∀ n, drN n r id = r
  | 0 => rfl
  | n + 1 => by show drN n (dr r id) id = r; rw [h]; exact drN_fix h n
theorem drN_safe {id : Int} : ∀ n (r : List Nd), RgSafe r → RgSafe (drN n r id)
  | 0, _, h => h
  | n + 1, _, h => drN_safe n _ (dr_safe h)
theorem drN_ids {id : Int} : ∀ n (r : List Nd), ids (drN n r id) = ids r
  | 0, _ => rfl
  | n + 1, _ => (drN_ids n _).trans dr_ids
theorem dr_len {r : List Nd} {id : Int} (h : RgSafe r) (hid : id ∈ ids r) : (ndAt r id).2.2.length = 2 := (h.1.2.1 _ (ndAt_mem hid)).2.2.1
theorem dr2_live {r : List Nd} {id : Int} (h : RgSafe r) (hid : id ∈ ids r) : a0 (ndAt (drN 2 r id) id) ∈ ids r := by
  by_cases ha : a0 (ndAt r id) ∈ ids r
  · rw [drN_fix (dr_none (dropR_no fun h => h.2 ha))]; exact ha
  · have h1 : a1 (ndAt r id) ∈ ids r := by
      obtain ⟨k, hk, hk'⟩ := h.2.1 _ (ndAt_mem hid)
      rw [aft2 (dr_len h hid)] at hk
      rcases List.mem_cons.1 hk with rfl | hk
      · exact absurd hk' ha
      · rcases List.mem_cons.1 hk with rfl | hk
        · exact hk'
        · cases hk
    have hd : dr r id = setN r id (id, (ndAt r id).2.1, [a1 (ndAt r id), (a1 (ndAt r id) + 1) % 64]) := by unfold dr; rw [dropR_yes ⟨hid, ha⟩]; rfl
    have hn : ndAt (dr r id) id = (id, (ndAt r id).2.1, [a1 (ndAt r id), (a1 (ndAt r id) + 1) % 64]) := by rw [hd]; exact ndAt_setN hid rfl
    have hl : a0 (ndAt (dr r id) id) ∈ ids r := by rw [hn]; exact h1
    have : drN 2 r id = dr r id := by
      show dr (dr r id) id = _
      exact dr_none (dropR_no fun h => h.2 (by rw [dr_ids]; exact hl))
    rw [this]; exact hl
theorem foll_ids {r : List Nd} {id s : Int} (hid : id ∈ ids r) : ids (foll r id s) = ids r := ids_setN hid rfl
theorem a0_foll {r : List Nd} {id s : Int} (hid : id ∈ ids r) : a0 (ndAt (foll r id s) id) = s := by
  unfold foll; rw [ndAt_setN hid rfl]; rfl
theorem ad1_safe {r : List Nd} {id : Int} (h : RgSafe r) : RgSafe (ad1 r id) := by
  unfold ad1; cases hd : adoptR r id with
  | none => exact h
  | some x => exact adoptR_safe h hd
theorem ad1_ids {r : List Nd} {id : Int} : ids (ad1 r id) = ids r := by
  unfold ad1 adoptR; split
  · next h => exact foll_ids h.1
  · rfl
theorem ad1_live {r : List Nd} {id : Int} (hid : id ∈ ids r) (h : a0 (ndAt r id) ∈ ids r) : a0 (ndAt (ad1 r id) id) ∈ ids r := by
  unfold ad1; rw [adoptR_yes ⟨hid, h⟩]; show a0 (ndAt (foll r id _) id) ∈ _
  rw [a0_foll hid]; exact h
theorem clo_safe {r : List Nd} {id o : Int} (h : RgSafe r) : RgSafe ((closerR r id o).getD r) := by
  cases hd : closerR r id o with
  | none => exact h
  | some x => exact closerR_safe h hd
theorem clo_ids {r : List Nd} {id o : Int} : ids ((closerR r id o).getD r) = ids r := by
  unfold closerR; split
  · next h => exact foll_ids h.1
  · rfl
theorem clo_live {r : List Nd} {id o : Int} (h : a0 (ndAt r id) ∈ ids r) : a0 (ndAt ((closerR r id o).getD r) id) ∈ ids r := by
  unfold closerR; split
  · next h => show a0 (ndAt (foll r id o) id) ∈ _; rw [a0_foll h.1]; exact h.2.1
  · exact h
theorem clo1_safe {r : List Nd} {id : Int} (h : RgSafe r) : RgSafe (clo1 r id) := by unfold clo1; (split; exact clo_safe h; exact h)
theorem clo1_ids {r : List Nd} {id : Int} : ids (clo1 r id) = ids r := by unfold clo1; (split; exact clo_ids; rfl)
theorem clo1_live {r : List Nd} {id : Int} (h : a0 (ndAt r id) ∈ ids r) : a0 (ndAt (clo1 r id) id) ∈ ids r := by unfold clo1; (split; exact clo_live h; exact h)
theorem not1_safe {r : List Nd} {id : Int} (h : RgSafe r) : RgSafe (not1 r id) := by
  unfold not1; cases hd : notifyR r (a0 (ndAt r id)) id with
  | none => exact h
  | some x => exact notifyR_safe h hd
theorem stabR_safe {r : List Nd} {id : Int} (h : RgSafe r) : RgSafe (stabR r id) := not1_safe (clo1_safe (ad1_safe (drN_safe 2 r h)))
def stR (r : List Nd) (id : Int) : Option (List Nd) := if id ∈ ids r then some (stabR r id) else none
theorem stR_safe {r x : List Nd} {id : Int} (h : RgSafe r) (hx : stR r id = some x) : RgSafe x := by
  unfold stR at hx; split at hx
  · obtain rfl := Option.some.inj hx; exact stabR_safe h
  · cases hx
theorem ot_dr {r : List Nd} {id : Int} : (ot r (dropR r id)).1 = dr r id := by unfold ot dr; cases dropR r id <;> rfl
theorem ot_1 {r : List Nd} {o : Option (List Nd)} : (ot r o).1 = o.getD r := by cases o <;> rfl
theorem ot_b {r : List Nd} {o : Option (List Nd)} : (ot r o).2 = o.isSome := by cases o <;> rfl
end Go.Ro

namespace Go.Ro
open Go

/-- the walk's own, or empty without room -/
def OSx (sz : Nat) (t : TypeId) (v : Value) (m : Nat) (cs : List Value) (A : Own) : Prop :=
  OS sz t v m cs A ∨ (m = 0 ∧ A = [] ∧ cs = [] ∧ ∃ b : Nat, v = .slice (some ⟨b, 0, none⟩) 0 0)
theorem ints_flat (xs : List Int) : ints xs = xs.flatMap fun n => [.int .i64 n] := by
  induction xs with
  | nil => rfl
  | cons x xs ih => rw [List.flatMap_cons, ← ih]; rfl
section
variable {sz m : Nat} {t : TypeId} {v : Value} {cs : List Value} {A : Own}
theorem OSx.slw (h : OSx sz t v m cs A) : SlW v m := by
  rcases h with h | ⟨rfl, _, _, b, rfl⟩
  · exact h.slw
  · exact ⟨_, _, rfl, Nat.le_refl _, Nat.zero_le _, .inr ⟨_, _, rfl⟩⟩
theorem OSx.one (h : OSx sz t v m cs A) : one v = true := h.slw.one
theorem OSx.pub {α : Type} {c : α → List Value} {xs : List α} {e w : World} {G : View} {L : Own} (hc : ∀ x, (c x).length = sz) (hK : K e w G (A ++ L)) (ho : OSx sz t v xs.length (xs.flatMap c) A) :
    ∃ G', VLe G G' ∧ SlR sz (EF c) G' v xs ∧ K e w G' L := by
  rcases ho with ho | ⟨h0, rfl, _, b, rfl⟩
  · exact K.pubE hc hK ho
  · obtain rfl := List.eq_nil_of_length_eq_zero h0
    exact ⟨G, VLe.refl _, SlR.lit0, hK⟩
end
section
variable {P : Program} {n : Nat} {Q : Po} {f : Sl} {w e : World} {G : View} {L A : Own} {ops : Array Oper} {rest : List Oper} {d : Nat} {pos : String} {af : Array Edge}
/-- append to an empty slice without room: what it makes stays the walk's own -/
theorem ap0o {α : Type} {c : α → List Value} {T E' ty' by' sz bb : Nat} {z : Value} {u : Value} {x y : Operand} {ys : List α} (hc : ∀ x, (c x).length = sz) (hsz : Nat.ble 1 sz = true) (hK : K e w G L) (hT : P.underlying T = some (.slice E')) (hi : Inf P E' z sz by') (hz : z.cells.size = sz) (hby : Nat.ble by' 1000 = true)
    (hx : ev n f x = .slice (some ⟨bb, 0, none⟩) 0 0) (hy : ev n f y = u) (hu : SlR sz (EF c) G u ys) (hmk : ys.length ≤ 1000000000)
    (h : ∀ v' A' w1, OSx sz E' v' ys.length (ys.flatMap c) A' → K e w1 G (A' ++ L) → WL P n ops Q rest (upd f d v') w1) :
    WL P n ops Q (⟨some d, .call ⟨.builtin .append, #[x, y], #[T, T]⟩, ty', pos, af, none⟩ :: rest) f w := by
  obtain ⟨b2, c2, rfl, _, _, hb2⟩ := hu.1
  obtain ⟨v', A', w1, hr, h2, h3⟩ := run_append0 (P := P) (ty' := ty') (bb := bb) (news := ys.flatMap c) hK hT hi hz (flat_len hc ys) hb2 (fun _ _ hj => hK.cell (hu.cells hc (Nat.le_of_ble_eq_true hsz) hj)) hmk (Nat.le_of_ble_eq_true hby)
  have ho : OSx sz E' v' ys.length (ys.flatMap c) A' := by
    rcases h3 with ⟨h4, rfl, rfl⟩ | h3
    · have : ys = [] := List.eq_nil_of_length_eq_zero h4
      subst this
      exact .inr ⟨rfl, rfl, rfl, _, rfl⟩
    · exact .inl h3
  refine vl ?_ (h v' A' w1 ho h2)
  unfold St execOp
  simp only [resolve, Sem.run_bind, Sem.run_pure, Result.andThen_ok, invoke, builtin, List.map_toArray, List.map_cons, List.map_nil, hx, hy, hr]
/-- one element more -/
theorem apE1x {α : Type} {c : α → List Value} {T E' E2 ty' b2 by' sz : Nat} {z : Value} {v : Value} {x y : Operand} {xs : List α} {k : α} (hc : ∀ x, (c x).length = sz) (hone : (c k).all one = true) (hK : K e w G ((b2, row (c k) E2) :: (A ++ L))) (hT : P.underlying T = some (.slice E')) (hi : Inf P E' z sz by') (hz : z.cells.size = sz) (hby : Nat.ble by' 1000 = true)
    (hx : ev n f x = v) (ho : OSx sz E' v xs.length (xs.flatMap c) A) (hy : ev n f y = .slice (some ⟨b2, 0, none⟩) 1 1) (hmk : xs.length + 1 ≤ 1000000000)
    (h : ∀ v' A' w1, OS sz E' v' (xs ++ [k]).length ((xs ++ [k]).flatMap c) A' → K e w1 G (A' ++ L) → WL P n ops Q rest (upd f d v') w1) :
    WL P n ops Q (⟨some d, .call ⟨.builtin .append, #[x, y], #[T, T]⟩, ty', pos, af, none⟩ :: rest) f w := by
  rcases ho with ho | ⟨h0, rfl, _, b, rfl⟩
  · exact apE1 hc hone hK hT hi hz hby hx ho hy hmk h
  · obtain rfl := List.eq_nil_of_length_eq_zero h0
    have hb := hK.own b2 _ (List.mem_cons_self ..)
    obtain ⟨v', A', w1, hr, h2, h3⟩ := run_append0 (P := P) (ty' := ty') (bb := b) (news := c k) (k := 1) (b2 := some ⟨b2, 0, none⟩) (c2 := 1) hK hT hi hz (by rw [hc, Nat.one_mul]) (.inr ⟨_, _, rfl⟩) (fun j u hj => by simp only [elA, Nat.zero_add]; rw [row_cell hb]; exact hj) (by omega) (Nat.le_of_ble_eq_true hby)
    rcases h3 with ⟨h4, _⟩ | h3
    · cases h4
    · refine vl ?_ (h v' A' w1 (by simpa using h3) (K.drop1 (K.back1 h2)))
      unfold St execOp
      simp only [resolve, Sem.run_bind, Sem.run_pure, Result.andThen_ok, invoke, builtin, List.map_toArray, List.map_cons, List.map_nil, hx, hy, hr]
end
/-- a world whose items, and keys since the scan began, are the walk's own -/
structure WdO (G : View) (lc : Ls → List Value) (tI tS : TypeId) (W : Wv) (w : Wd) (rs : List Rn) (AI AS : Own) : Prop where
  now : W.now = w.now
  ring : RngS G W.r rs
  rg : rgl rs = w.ring
  leases : SlR 3 (EF lc) G W.l w.leases
  items : OSx 2 tI W.i w.items.length (w.items.flatMap ic) AI
  next : W.next = w.scan.1
  told : IntS G W.t w.scan.2
  since : OSx 1 tS W.s w.since.length (w.since.flatMap fun n => [.int .i64 n]) AS
section
variable {G G' : View} {lc : Ls → List Value} {tI tS : TypeId} {W : Wv} {wd : Wd} {rs : List Rn} {AI AS L : Own} {e w : World}
theorem WdO.mono (h : WdO G lc tI tS W wd rs AI AS) (hG : VLe G G') : WdO G' lc tI tS W wd rs AI AS :=
  ⟨h.now, h.ring.mono hG, h.rg, EF.mono h.leases hG, h.items, h.next, h.told.mono hG, h.since⟩
theorem WdO.one (h : WdO G lc tI tS W wd rs AI AS) : (wc W).all Ro.one = true :=
  allc rfl (allc h.ring.sl.1.one (allc h.leases.1.one (allc h.items.one (allc rfl (allc h.told.1.one (allc h.since.one rfl))))))
theorem WdO.pub (h : WdO G lc tI tS W wd rs AI AS) (hK : K e w G (AI ++ (AS ++ L))) : ∃ G', VLe G G' ∧ WdS G' lc W wd rs ∧ K e w G' L := by
  obtain ⟨G1, g1, h1, hK⟩ := OSx.pub (c := ic) (fun _ => rfl) hK h.items
  obtain ⟨G2, g2, h2, hK⟩ := OSx.pub (c := fun n => [.int .i64 n]) (fun _ => rfl) hK h.since
  exact ⟨G2, g1.trans g2, ⟨h.now, h.ring.mono (g1.trans g2), h.rg, EF.mono h.leases (g1.trans g2), EF.mono h1 g2, h.next, h.told.mono (g1.trans g2), h2⟩, hK⟩
theorem WdO.pubB (h : WdO G lc tI tS W wd rs AI AS) {B : Own} (hK : K e w G (B ++ (AI ++ (AS ++ L)))) : ∃ G', VLe G G' ∧ WdS G' lc W wd rs ∧ K e w G' (B ++ L) := by
  obtain ⟨G1, g1, h1, hK⟩ := OSx.pub (c := ic) (fun _ => rfl) (K.mid (A := B) (B := AI) hK) h.items
  obtain ⟨G2, g2, h2, hK⟩ := OSx.pub (c := fun n => [.int .i64 n]) (fun _ => rfl) (K.mid (A := B) (B := AS) hK) h.since
  exact ⟨G2, g1.trans g2, ⟨h.now, h.ring.mono (g1.trans g2), h.rg, EF.mono h.leases (g1.trans g2), EF.mono h1 g2, h.next, h.told.mono (g1.trans g2), h2⟩, hK⟩
end
section
variable {P : Program} {n : Nat} {Q : Po} {f : Sl} {w : World} {ops : Array Oper} {S : World → Prop} {k : Nat} {l l' : List Bool}
/-- three that can come -/
theorem xe3 {i j m : Nat} {o u t : Oper} {l2 l3 : List Bool} (hr : Region.ready .any ops l.toArray = [i, j, m]) (hi : ops[i]? = some o) (hj : ops[j]? = some u) (hm : ops[m]? = some t) (hl : l.set i true = l') (hl2 : l.set j true = l2) (hl3 : l.set m true = l3)
    (h : WL P n ops (Xp P n ops S Q k l') [o] f w) (h2 : WL P n ops (Xp P n ops S Q k l2) [u] f w) (h3 : WL P n ops (Xp P n ops S Q k l3) [t] f w) : WX P n ops S Q (k + 1) l f w := by
  refine wpAnyH_all hr (by simp) ?_
  intro a ha
  rcases List.mem_cons.1 ha with rfl | ha
  · exact xop hi hl h
  rcases List.mem_cons.1 ha with rfl | ha
  · exact xop hj hl2 h2
  · obtain rfl := List.mem_singleton.1 ha
    exact xop hm hl3 h3
end
end Go.Ro
