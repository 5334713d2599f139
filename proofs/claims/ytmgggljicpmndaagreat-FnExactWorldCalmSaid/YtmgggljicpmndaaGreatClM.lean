/- Rounds of a ring, plain: each step lowers a measure; where none changes anything the ring is ideal. Conditions: those that each row states. -/
import Derived.Test.YtmgggljicpmndaaGreatStM
import Derived.Test.YtmgggljicpmndaaGreatLeM
namespace Go.Ro
def cd (a b : Int) : Nat := ((b - a - 1) % 64).toNat
def wN (S : List Int) (x : Nd) : Nat := (if a0 x ∈ S then cd x.1 (a0 x) else 100) + (if x.2.1 ∈ S then cd x.2.1 x.1 else 100)
def m1 (r : List Nd) : Nat := (r.map (wN (ids r))).sum
def bad1 (r : List Nd) (x : Nd) : Bool := decide (x.2.2 ≠ [a0 x, a0 (ndAt r (a0 x))])
def bad (r : List Nd) : Nat := r.countP (bad1 r)
def msr (r : List Nd) : Nat := m1 r * 11 + bad r
theorem sum_put {α : Type} (f : α → Nat) : ∀ (r : List α) (i : Nat) (hi : i < r.length) (n : α), ((r.set i n).map f).sum + f r[i] = (r.map f).sum + f n
  | x :: r, 0, _, n => by simp; omega
  | x :: r, i + 1, hi, n => by
    have := sum_put f r i (by simpa using hi) n
    simp only [List.set_cons_succ, List.map_cons, List.sum_cons, List.getElem_cons_succ]; omega
theorem cnt_put {α : Type} (p : α → Bool) : ∀ (r : List α) (i : Nat) (hi : i < r.length) (n : α), (r.set i n).countP p + (if p r[i] then 1 else 0) = r.countP p + (if p n then 1 else 0)
  | x :: r, 0, _, n => by simp only [List.set_cons_zero, List.countP_cons, List.getElem_cons_zero]; omega
  | x :: r, i + 1, hi, n => by
    have := cnt_put p r i (by simpa using hi) n
    simp only [List.set_cons_succ, List.countP_cons, List.getElem_cons_succ]; omega
theorem m1_set {r : List Nd} {id : Int} {n : Nd} (hid : id ∈ ids r) (h : n.1 = id) : m1 (setN r id n) + wN (ids r) (ndAt r id) = m1 r + wN (ids r) n := by
  unfold m1; rw [ids_setN hid h]
  have := sum_put (wN (ids r)) r (fx r id) (fx_lt hid) n
  rw [ndAt_eq hid] at this; exact this
theorem cd_lt (a b : Int) : cd a b < 64 := by unfold cd; omega
theorem cd_r {a x b : Int} (ha : Pt a) (hx : Pt x) (hb : Pt b) (h : btw a x b = true) : cd a x < cd a b := by
  unfold Pt at ha hx hb
  unfold btw at h; unfold cd
  split at h
  · have := of_decide_eq_true h; omega
  · have := of_decide_eq_true h; omega
theorem cd_l {a x b : Int} (ha : Pt a) (hx : Pt x) (hb : Pt b) (h : btw a x b = true) : cd x b < cd a b := by
  unfold Pt at ha hx hb
  unfold btw at h; unfold cd
  split at h
  · have := of_decide_eq_true h; omega
  · have := of_decide_eq_true h; omega
theorem a1_live {r : List Nd} {id : Int} (h : RgSafe r) (hid : id ∈ ids r) (ha : a0 (ndAt r id) ∉ ids r) : a1 (ndAt r id) ∈ ids r := by
  obtain ⟨k, hk, hk'⟩ := h.2.1 _ (ndAt_mem hid)
  rw [aft2 (dr_len h hid)] at hk
  rcases List.mem_cons.1 hk with rfl | hk
  · exact absurd hk' ha
  · rcases List.mem_cons.1 hk with rfl | hk
    · exact hk'
    · cases hk
theorem dr_live {r : List Nd} {id : Int} (h : RgSafe r) (hid : id ∈ ids r) : a0 (ndAt (dr r id) id) ∈ ids (dr r id) := by
  rw [dr_ids]
  by_cases ha : a0 (ndAt r id) ∈ ids r
  · rw [dr_none (dropR_no fun h => h.2 ha)]; exact ha
  · have h1 := a1_live h hid ha
    have hd : dr r id = setN r id (id, (ndAt r id).2.1, [a1 (ndAt r id), (a1 (ndAt r id) + 1) % 64]) := by unfold dr; rw [dropR_yes ⟨hid, ha⟩]; rfl
    rw [hd, ndAt_setN hid rfl]; exact h1
theorem drop_mu {r : List Nd} {id : Int} (h : RgSafe r) : dropR r id = none ∨ m1 (dr r id) < m1 r := by
  by_cases hd : id ∈ ids r ∧ a0 (ndAt r id) ∉ ids r
  · right
    obtain ⟨hid, ha⟩ := hd
    have h1 := a1_live h hid ha
    have e : dr r id = setN r id (id, (ndAt r id).2.1, [a1 (ndAt r id), (a1 (ndAt r id) + 1) % 64]) := by unfold dr; rw [dropR_yes ⟨hid, ha⟩]; rfl
    rw [e]
    have hs := m1_set (n := (id, (ndAt r id).2.1, [a1 (ndAt r id), (a1 (ndAt r id) + 1) % 64])) hid rfl
    have e1 : wN (ids r) (id, (ndAt r id).2.1, [a1 (ndAt r id), (a1 (ndAt r id) + 1) % 64]) = cd id (a1 (ndAt r id)) + (if (ndAt r id).2.1 ∈ ids r then cd (ndAt r id).2.1 id else 100) := by
      show (if a1 (ndAt r id) ∈ ids r then _ else _) + _ = _
      rw [if_pos h1]; rfl
    have e2 : wN (ids r) (ndAt r id) = 100 + (if (ndAt r id).2.1 ∈ ids r then cd (ndAt r id).2.1 id else 100) := by
      unfold wN; rw [if_neg ha, ndAt_id hid]
    have := cd_lt id (a1 (ndAt r id))
    rw [e1, e2] at hs
    omega
  · exact .inl (dropR_no hd)
theorem foll_m1 {r : List Nd} {id s : Int} (hid : id ∈ ids r) (hs : s ∈ ids r) : m1 (foll r id s) + (if a0 (ndAt r id) ∈ ids r then cd id (a0 (ndAt r id)) else 100) = m1 r + cd id s := by
  have hq := m1_set (n := (id, (ndAt r id).2.1, [s, a0 (ndAt r s)])) hid rfl
  have e1 : wN (ids r) (id, (ndAt r id).2.1, [s, a0 (ndAt r s)]) = cd id s + (if (ndAt r id).2.1 ∈ ids r then cd (ndAt r id).2.1 id else 100) := by
    show (if s ∈ ids r then _ else _) + _ = _
    rw [if_pos hs]; rfl
  have e2 : wN (ids r) (ndAt r id) = (if a0 (ndAt r id) ∈ ids r then cd id (a0 (ndAt r id)) else 100) + (if (ndAt r id).2.1 ∈ ids r then cd (ndAt r id).2.1 id else 100) := by
    unfold wN; rw [ndAt_id hid]
  rw [e1, e2] at hq
  unfold foll
  omega
theorem close_mu {r : List Nd} {id o : Int} (h : RgSafe r) : closerR r id o = none ∨ m1 ((closerR r id o).getD r) < m1 r := by
  by_cases hd : id ∈ ids r ∧ o ∈ ids r ∧ btw id o (a0 (ndAt r id)) = true
  · right
    rw [closerR_yes hd]
    obtain ⟨hid, ho, hb⟩ := hd
    have := foll_m1 hid ho
    have h1 := cd_r (h.1.ptId hid) (h.1.ptId ho) (h.1.2.1 _ (ndAt_mem hid)).a0 hb
    have h2 := cd_lt id o
    show m1 (foll r id o) < _
    split at this <;> omega
  · exact .inl (closerR_no hd)
theorem notify_mu {r : List Nd} {id o : Int} (h : RgSafe r) : notifyR r id o = none ∨ m1 ((notifyR r id o).getD r) < m1 r := by
  by_cases hd : id ∈ ids r ∧ o ≠ id ∧ o ∈ ids r ∧ ((ndAt r id).2.1 = -1 ∨ (ndAt r id).2.1 ∉ ids r ∨ btw (ndAt r id).2.1 o id = true)
  · right
    rw [notifyR_yes hd]
    obtain ⟨hid, hne, ho, hb⟩ := hd
    show m1 (setN r id (id, o, (ndAt r id).2.2)) < _
    have hq := m1_set (n := (id, o, (ndAt r id).2.2)) hid rfl
    have e1 : wN (ids r) (id, o, (ndAt r id).2.2) = (if a0 (ndAt r id) ∈ ids r then cd id (a0 (ndAt r id)) else 100) + cd o id := by
      show _ + (if o ∈ ids r then _ else _) = _
      rw [if_pos ho]; rfl
    have e2 : wN (ids r) (ndAt r id) = (if a0 (ndAt r id) ∈ ids r then cd id (a0 (ndAt r id)) else 100) + (if (ndAt r id).2.1 ∈ ids r then cd (ndAt r id).2.1 id else 100) := by
      unfold wN; rw [ndAt_id hid]
    rw [e1, e2] at hq
    have h2 := cd_lt o id
    by_cases hm : (ndAt r id).2.1 ∈ ids r
    · rw [if_pos hm] at hq
      have hp := h.1.ptId hm
      rcases hb with hb | hb | hb
      · rw [hb] at hp; unfold Pt at hp; omega
      · exact absurd hm hb
      · have := cd_l hp (h.1.ptId ho) (h.1.ptId hid) hb
        omega
    · rw [if_neg hm] at hq; omega
  · exact .inl (notifyR_no hd)
theorem ndAt_else {r : List Nd} {id k : Int} {n : Nd} (hid : id ∈ ids r) (h : n.1 = id) (hk : k ≠ id) : ndAt (setN r id n) k = ndAt r k := by
  unfold ndAt
  rw [fx_ids (ids_setN hid h)]
  unfold setN
  rw [List.getD_eq_getElem?_getD, List.getD_eq_getElem?_getD, List.getElem?_set]
  split
  · next e =>
    split
    · next hl =>
      exfalso; apply hk
      have := List.findIdx_getElem (p := fun x : Nd => x.1 == k) (w := show List.findIdx (fun x : Nd => x.1 == k) r < r.length by unfold fx at e hl; omega)
      have h2 := List.findIdx_getElem (p := fun x : Nd => x.1 == id) (w := fx_lt hid)
      have e3 : List.findIdx (fun x : Nd => x.1 == k) r = List.findIdx (fun x : Nd => x.1 == id) r := by unfold fx at e; exact e.symm
      simp only [e3] at this
      exact (eq_of_beq this).symm.trans (eq_of_beq h2)
    · next hl => exact absurd (fx_lt hid) hl
  · rfl
theorem setN_self {r : List Nd} {id : Int} (hid : id ∈ ids r) : setN r id (ndAt r id) = r := by
  unfold setN; rw [← ndAt_eq hid]; exact List.set_getElem_self _
theorem adopt_mu {r : List Nd} {id : Int} (_h : RgSafe r) : ad1 r id = r ∨ (m1 (ad1 r id) = m1 r ∧ bad (ad1 r id) < bad r) := by
  by_cases hd : id ∈ ids r ∧ a0 (ndAt r id) ∈ ids r
  · have e : ad1 r id = foll r id (a0 (ndAt r id)) := by unfold ad1; rw [adoptR_yes hd]; rfl
    rw [e]
    obtain ⟨hid, ha⟩ := hd
    by_cases hb : (ndAt r id).2.2 = [a0 (ndAt r id), a0 (ndAt r (a0 (ndAt r id)))]
    · left
      have : (id, (ndAt r id).2.1, [a0 (ndAt r id), a0 (ndAt r (a0 (ndAt r id)))]) = ndAt r id := by
        rw [← hb]; exact Prod.ext (ndAt_id hid).symm rfl
      unfold foll; rw [this]; exact setN_self hid
    · right
      have hm := foll_m1 hid ha
      rw [if_pos ha] at hm
      refine ⟨by omega, ?_⟩
      have hc : ∀ k, a0 (ndAt (foll r id (a0 (ndAt r id))) k) = a0 (ndAt r k) := by
        intro k
        by_cases hk : k = id
        · subst hk; exact a0_foll hid
        · unfold foll; rw [ndAt_else hid rfl hk]
      have hf : bad1 (foll r id (a0 (ndAt r id))) = bad1 r := by
        funext x; unfold bad1; rw [hc]
      unfold bad
      rw [hf]
      have := cnt_put (bad1 r) r (fx r id) (fx_lt hid) (id, (ndAt r id).2.1, [a0 (ndAt r id), a0 (ndAt r (a0 (ndAt r id)))])
      rw [ndAt_eq hid] at this
      have e1 : bad1 r (ndAt r id) = true := decide_eq_true hb
      have e2 : bad1 r (id, (ndAt r id).2.1, [a0 (ndAt r id), a0 (ndAt r (a0 (ndAt r id)))]) = false := decide_eq_false (fun h => h rfl)
      rw [e1, e2, if_pos rfl, if_neg (by simp)] at this
      unfold foll setN
      omega
  · left; unfold ad1; rw [adoptR_no hd]; rfl
theorem bad_le {r : List Nd} (h : RgSafe r) : bad r ≤ 10 := Nat.le_trans List.countP_le_length h.1.1
theorem stab_cases {r : List Nd} {id : Int} (h : RgSafe r) (_hid : id ∈ ids r) : m1 (stabR r id) < m1 r ∨ (stabR r id = ad1 r id ∧ dropR r id = none ∧
    (0 ≤ (ndAt (ad1 r id) (a0 (ndAt (ad1 r id) id))).2.1 → closerR (ad1 r id) id (ndAt (ad1 r id) (a0 (ndAt (ad1 r id) id))).2.1 = none) ∧ notifyR (ad1 r id) (a0 (ndAt (ad1 r id) id)) id = none) := by
  have hc : ∀ q : List Nd, RgSafe q → m1 (clo1 q id) ≤ m1 q ∧ (m1 (clo1 q id) < m1 q ∨ (clo1 q id = q ∧ (0 ≤ (ndAt q (a0 (ndAt q id))).2.1 → closerR q id (ndAt q (a0 (ndAt q id))).2.1 = none))) := by
    intro q hq
    unfold clo1
    split
    · next h0 =>
      rcases close_mu (id := id) (o := (ndAt q (a0 (ndAt q id))).2.1) hq with hn | hl
      · rw [hn]; exact ⟨Nat.le_refl _, .inr ⟨rfl, fun _ => rfl⟩⟩
      · exact ⟨by omega, .inl hl⟩
    · next h0 => exact ⟨Nat.le_refl _, .inr ⟨rfl, fun g => absurd g h0⟩⟩
  have hn : ∀ q : List Nd, RgSafe q → m1 (not1 q id) ≤ m1 q ∧ (m1 (not1 q id) < m1 q ∨ (not1 q id = q ∧ notifyR q (a0 (ndAt q id)) id = none)) := by
    intro q hq
    unfold not1
    rcases notify_mu (id := a0 (ndAt q id)) (o := id) hq with hn | hl
    · rw [hn]; exact ⟨Nat.le_refl _, .inr ⟨rfl, rfl⟩⟩
    · exact ⟨by omega, .inl hl⟩
  have ha : ∀ q : List Nd, RgSafe q → m1 (ad1 q id) = m1 q := by
    intro q hq
    rcases adopt_mu (id := id) hq with h | h
    · rw [h]
    · exact h.1
  have hd : m1 (drN 2 r id) ≤ m1 r ∧ (m1 (drN 2 r id) < m1 r ∨ (drN 2 r id = r ∧ dropR r id = none)) := by
    rcases drop_mu (id := id) h with hn | hl
    · rw [drN_fix (dr_none hn)]; exact ⟨Nat.le_refl _, .inr ⟨rfl, hn⟩⟩
    · have h2 : m1 (drN 2 r id) ≤ m1 (dr r id) := by
        show m1 (dr (dr r id) id) ≤ _
        rcases drop_mu (id := id) (dr_safe (id := id) h) with hn | hl
        · rw [dr_none hn]; exact Nat.le_refl _
        · omega
      exact ⟨by omega, .inl (by omega)⟩
  have hs1 := drN_safe (id := id) 2 r h
  have hs2 := ad1_safe (id := id) hs1
  have hs3 := clo1_safe (id := id) hs2
  have h1 := ha _ hs1
  have h2 := hc _ hs2
  have h3 := hn _ hs3
  unfold stabR
  rcases hd.2 with h4 | ⟨h4, h5⟩
  · left; omega
  · rw [h4] at h1 h2 h3 ⊢
    rcases h2.2 with h6 | ⟨h6, h7⟩
    · left; omega
    · rw [h6] at h3 ⊢
      rcases h3.2 with h8 | ⟨h8, h9⟩
      · left; omega
      · right; rw [h8]; exact ⟨rfl, h5, h7, h9⟩
theorem stab_mu {r : List Nd} {id : Int} (h : RgSafe r) (hid : id ∈ ids r) : stabR r id = r ∨ msr (stabR r id) < msr r := by
  have hb := bad_le (stabR_safe (id := id) h)
  rcases stab_cases h hid with h1 | ⟨h1, _⟩
  · right; unfold msr; omega
  · rw [h1] at hb ⊢
    rcases adopt_mu (id := id) h with h2 | h2
    · exact .inl h2
    · right; unfold msr; omega
def rndR (r : List Nd) (ks : List Int) : List Nd := ks.foldl stabR r
def rnd (r : List Nd) : List Nd := rndR r (ids r)
theorem rndR_safe : ∀ (ks : List Int) {r : List Nd}, RgSafe r → RgSafe (rndR r ks)
  | [], _, h => h
  | _ :: ks, _, h => rndR_safe ks (stabR_safe h)
theorem rndR_ids : ∀ (ks : List Int) {r : List Nd}, ids (rndR r ks) = ids r
  | [], _ => rfl
  | _ :: ks, _ => (rndR_ids ks).trans stabR_ids
theorem rndR_mu : ∀ (ks : List Int) {r : List Nd}, RgSafe r → (∀ k ∈ ks, k ∈ ids r) → ((∀ k ∈ ks, stabR r k = r) ∧ rndR r ks = r) ∨ msr (rndR r ks) < msr r
  | [], _, _, _ => .inl ⟨fun _ h => (nomatch h), rfl⟩
  | k :: ks, r, h, hk => by
    have h2 := rndR_mu ks (stabR_safe (id := k) h) (fun x hx => by rw [stabR_ids]; exact hk x (List.mem_cons_of_mem _ hx))
    rcases stab_mu h (hk k (List.mem_cons_self ..)) with h1 | h1
    · rw [h1] at h2
      rcases h2 with ⟨h3, h4⟩ | h3
      · refine .inl ⟨fun x hx => ?_, ?_⟩
        · rcases List.mem_cons.1 hx with rfl | hx
          · exact h1
          · exact h3 x hx
        · show rndR (stabR r k) ks = r; rw [h1]; exact h4
      · right; show msr (rndR (stabR r k) ks) < _; rw [h1]; exact h3
    · right; show msr (rndR (stabR r k) ks) < _
      rcases h2 with ⟨_, h4⟩ | h3
      · rw [h4]; exact h1
      · omega
theorem rnd_safe {r : List Nd} (h : RgSafe r) : RgSafe (rnd r) := rndR_safe _ h
theorem rnd_ids {r : List Nd} : ids (rnd r) = ids r := rndR_ids _
theorem rnd_mu {r : List Nd} (h : RgSafe r) : ((∀ k ∈ ids r, stabR r k = r) ∧ rnd r = r) ∨ msr (rnd r) < msr r := rndR_mu _ h fun _ h => h
def calR (r : List Nd) : List Nd := if msr (rnd r) < msr r then calR (rnd r) else r
termination_by msr r
theorem calR_same {r : List Nd} (h : rnd r = r) : calR r = r := by rw [calR, if_neg (by rw [h]; omega)]
theorem calR_step {r : List Nd} (hs : RgSafe r) (h : rnd r ≠ r) : calR r = calR (rnd r) ∧ msr (rnd r) < msr r := by
  have : msr (rnd r) < msr r := by
    rcases rnd_mu hs with ⟨_, h1⟩ | h1
    · exact absurd h1 h
    · exact h1
  exact ⟨by rw [calR, if_pos this], this⟩
theorem calR_fix {r : List Nd} (hs : RgSafe r) : RgSafe (calR r) ∧ ids (calR r) = ids r ∧ rnd (calR r) = calR r := by
  by_cases h : rnd r = r
  · rw [calR_same h]; exact ⟨hs, rfl, h⟩
  · obtain ⟨h1, h2⟩ := calR_step hs h
    rw [h1]
    have := calR_fix (rnd_safe hs)
    exact ⟨this.1, this.2.1.trans rnd_ids, this.2.2⟩
termination_by msr r
end Go.Ro
