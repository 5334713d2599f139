/- Stabilizing a ring, plain: what a node's whole round does. Conditions: those that each row states. -/
import Derived.Test.YtmgggljicpmndaaGreatRgT
import Derived.Test.YtmgggljicpmndaaGreatRgS
namespace Go.Ro
def dr (r : List Nd) (id : Int) : List Nd := (dropR r id).getD r
def drN : Nat → List Nd → Int → List Nd
  | 0, r, _ => r
  | n + 1, r, id => drN n (dr r id) id
def ad1 (r : List Nd) (id : Int) : List Nd := (adoptR r id).getD r
def clo1 (r : List Nd) (id : Int) : List Nd :=
  if 0 ≤ (ndAt r (a0 (ndAt r id))).2.1 then (closerR r id (ndAt r (a0 (ndAt r id))).2.1).getD r else r
def not1 (r : List Nd) (id : Int) : List Nd := (notifyR r (a0 (ndAt r id)) id).getD r
def stabR (r : List Nd) (id : Int) : List Nd := not1 (clo1 (ad1 (drN 2 r id) id) id) id
theorem fx_ids {r r' : List Nd} (h : ids r = ids r') (id : Int) : fx r id = fx r' id := by
  have e : ∀ r : List Nd, fx r id = (ids r).findIdx (fun x => x == id) := fun r => by unfold fx ids; rw [List.findIdx_map]; rfl
  rw [e, e, h]
theorem ndAt_setN {r : List Nd} {id : Int} {n : Nd} (hid : id ∈ ids r) (h : n.1 = id) : ndAt (setN r id n) id = n := by
  unfold ndAt
  rw [fx_ids (ids_setN hid h)]
  unfold setN
  rw [List.getD_eq_getElem?_getD, List.getElem?_set_self (fx_lt hid)]; rfl
theorem dr_none {r : List Nd} {id : Int} (h : dropR r id = none) : dr r id = r := by unfold dr; rw [h]; rfl
theorem dr_safe {r : List Nd} {id : Int} (h : RgSafe r) : RgSafe (dr r id) := by
  unfold dr; cases hd : dropR r id with
  | none => exact h
  | some x => exact dropR_safe h hd
theorem dr_ids {r : List Nd} {id : Int} : ids (dr r id) = ids r := by
  unfold dr dropR; split
  · next h => exact ids_setN h.1 rfl
  · rfl
theorem drN_fix {r : List Nd} {id : Int} (h : dr r id = r) : ∀ n, drN n r id = r
  | 0 => rfl
  | n + 1 => by show drN n (dr r id) id = r; rw [h]; exact drN_fix h n
theorem drN_safe {id : Int} : ∀ n (r : List Nd), RgSafe r → RgSafe (drN n r id)
  | 0, _, h => h
  | n + 1, _, h => drN_safe n _ (dr_safe h)
theorem drN_ids {id : Int} : ∀ n (r : List Nd), ids (drN n r id) = ids r
  | 0, _ => rfl
  | n + 1, _ => (drN_ids n _).trans dr_ids
theorem dr_len {r : List Nd} {id : Int} (h : RgSafe r) (hid : id ∈ ids r) : (ndAt r id).2.2.length = 2 := (h.1.2.1 _ (ndAt_mem hid)).2.2.1
theorem dr2_live {r : List Nd} {id : Int} (h : RgSafe r) (hid : id ∈ ids r) : a0 (ndAt (drN 2 r id) id) ∈ ids r := by
  by_cases ha : a0 (ndAt r id) ∈ ids r
  · rw [drN_fix (dr_none (dropR_no fun h => h.2 ha))]; exact ha
  · have h1 : a1 (ndAt r id) ∈ ids r := by
      obtain ⟨k, hk, hk'⟩ := h.2.1 _ (ndAt_mem hid)
      rw [aft2 (dr_len h hid)] at hk
      rcases List.mem_cons.1 hk with rfl | hk
      · exact absurd hk' ha
      · rcases List.mem_cons.1 hk with rfl | hk
        · exact hk'
        · cases hk
    have hd : dr r id = setN r id (id, (ndAt r id).2.1, [a1 (ndAt r id), (a1 (ndAt r id) + 1) % 64]) := by unfold dr; rw [dropR_yes ⟨hid, ha⟩]; rfl
    have hn : ndAt (dr r id) id = (id, (ndAt r id).2.1, [a1 (ndAt r id), (a1 (ndAt r id) + 1) % 64]) := by rw [hd]; exact ndAt_setN hid rfl
    have hl : a0 (ndAt (dr r id) id) ∈ ids r := by rw [hn]; exact h1
    have : drN 2 r id = dr r id := by
      show dr (dr r id) id = _
      exact dr_none (dropR_no fun h => h.2 (by rw [dr_ids]; exact hl))
    rw [this]; exact hl
theorem foll_ids {r : List Nd} {id s : Int} (hid : id ∈ ids r) : ids (foll r id s) = ids r := ids_setN hid rfl
theorem a0_foll {r : List Nd} {id s : Int} (hid : id ∈ ids r) : a0 (ndAt (foll r id s) id) = s := by
  unfold foll; rw [ndAt_setN hid rfl]; rfl
theorem ad1_safe {r : List Nd} {id : Int} (h : RgSafe r) : RgSafe (ad1 r id) := by
  unfold ad1; cases hd : adoptR r id with
  | none => exact h
  | some x => exact adoptR_safe h hd
theorem ad1_ids {r : List Nd} {id : Int} : ids (ad1 r id) = ids r := by
  unfold ad1 adoptR; split
  · next h => exact foll_ids h.1
  · rfl
theorem ad1_live {r : List Nd} {id : Int} (hid : id ∈ ids r) (h : a0 (ndAt r id) ∈ ids r) : a0 (ndAt (ad1 r id) id) ∈ ids r := by
  unfold ad1; rw [adoptR_yes ⟨hid, h⟩]; show a0 (ndAt (foll r id _) id) ∈ _
  rw [a0_foll hid]; exact h
theorem clo_safe {r : List Nd} {id o : Int} (h : RgSafe r) : RgSafe ((closerR r id o).getD r) := by
  cases hd : closerR r id o with
  | none => exact h
  | some x => exact closerR_safe h hd
theorem clo_ids {r : List Nd} {id o : Int} : ids ((closerR r id o).getD r) = ids r := by
  unfold closerR; split
  · next h => exact foll_ids h.1
  · rfl
theorem clo_live {r : List Nd} {id o : Int} (h : a0 (ndAt r id) ∈ ids r) : a0 (ndAt ((closerR r id o).getD r) id) ∈ ids r := by
  unfold closerR; split
  · next h => show a0 (ndAt (foll r id o) id) ∈ _; rw [a0_foll h.1]; exact h.2.1
  · exact h
theorem clo1_safe {r : List Nd} {id : Int} (h : RgSafe r) : RgSafe (clo1 r id) := by unfold clo1; (split; exact clo_safe h; exact h)
theorem clo1_ids {r : List Nd} {id : Int} : ids (clo1 r id) = ids r := by unfold clo1; (split; exact clo_ids; rfl)
theorem clo1_live {r : List Nd} {id : Int} (h : a0 (ndAt r id) ∈ ids r) : a0 (ndAt (clo1 r id) id) ∈ ids r := by unfold clo1; (split; exact clo_live h; exact h)
theorem not1_safe {r : List Nd} {id : Int} (h : RgSafe r) : RgSafe (not1 r id) := by
  unfold not1; cases hd : notifyR r (a0 (ndAt r id)) id with
  | none => exact h
  | some x => exact notifyR_safe h hd
theorem not1_ids {r : List Nd} {id : Int} : ids (not1 r id) = ids r := by
  unfold not1 notifyR; split
  · next h => exact ids_setN h.1 rfl
  · rfl
theorem stabR_safe {r : List Nd} {id : Int} (h : RgSafe r) : RgSafe (stabR r id) := not1_safe (clo1_safe (ad1_safe (drN_safe 2 r h)))
theorem stabR_ids {r : List Nd} {id : Int} : ids (stabR r id) = ids r := not1_ids.trans (clo1_ids.trans (ad1_ids.trans (drN_ids 2 r)))
def stR (r : List Nd) (id : Int) : Option (List Nd) := if id ∈ ids r then some (stabR r id) else none
theorem ot_dr {r : List Nd} {id : Int} : (ot r (dropR r id)).1 = dr r id := by unfold ot dr; cases dropR r id <;> rfl
theorem ot_1 {r : List Nd} {o : Option (List Nd)} : (ot r o).1 = o.getD r := by cases o <;> rfl
theorem ot_b {r : List Nd} {o : Option (List Nd)} : (ot r o).2 = o.isSome := by cases o <;> rfl
end Go.Ro
