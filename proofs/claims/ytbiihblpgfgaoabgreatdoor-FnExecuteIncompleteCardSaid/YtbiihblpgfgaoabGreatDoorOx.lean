/- Rounds of a ring, plain: each step lowers a measure; where none changes anything the ring is ideal. A safe ring that a round does not change is the ideal ring of its nodes. Slices of the walk's own, or empty ones without room; worlds whose items are the walk's own. Conditions: those that each row states. -/
import Derived.Test.YtbiihblpgfgaoabGreatDoorStM
import Derived.Test.YtbiihblpgfgaoabGreatDoorWdN
import Derived.Test.YtbiihblpgfgaoabGreatDoorAo
namespace Go.Ro
def cd (a b : Int) : Nat := ((b - a - 1) % 64).toNat
def wN (S : List Int) (x : Nd) : Nat := (if a0 x ∈ S then cd x.1 (a0 x) else 100) + (if x.2.1 ∈ S then cd x.2.1 x.1 else 100)
def m1 (r : List Nd) : Nat := (r.map (wN (ids r))).sum
def bad1 (r : List Nd) (x : Nd) : Bool := decide (x.2.2 ≠ [a0 x, a0 (ndAt r (a0 x))])
def bad (r : List Nd) : Nat := r.countP (bad1 r)
def msr (r : List Nd) : Nat := m1 r * 11 + bad r
theorem sum_put {α : Type} (f : α → Nat) : ∀ (r : List α) (i : Nat) (hi : i < r.length) (n : α), ((r.set i n).map f).sum + f r[i] = (r.map f).sum + f n
  | x :: r, 0, _, n => by simp; omega
  | x :: r, i + 1, hi, n => by
    have := sum_put f r i (by simpa using hi) n
    simp only [List.set_cons_succ, List.map_cons, List.sum_cons, List.getElem_cons_succ]; omega
theorem cnt_put {α : Type} (p : α → Bool) : ∀ (r : List α) (i : Nat) (hi : i < r.length) (n : α), (r.set i n).countP p + (if p r[i] then 1 else 0) = r.countP p + (if p n then 1 else 0)
  | x :: r, 0, _, n => by simp only [List.set_cons_zero, List.countP_cons, List.getElem_cons_zero]; omega
  | x :: r, i + 1, hi, n => by
    have := cnt_put p r i (by simpa using hi) n
    simp only [List.set_cons_succ, List.countP_cons, List.getElem_cons_succ]; omega
theorem m1_set {r : List Nd} {id : Int} {n : Nd} (hid : id ∈ ids r) (h : n.1 = id) : m1 (setN r id n) + wN (ids r) (ndAt r id) = m1 r + wN (ids r) n := by
  unfold m1; rw [ids_setN hid h]
  have := sum_put (wN (ids r)) r (fx r id) (fx_lt hid) n
  rw [ndAt_eq hid] at this; exact this
theorem cd_lt (a b : Int) : cd a b < 64 := by unfold cd; omega
theorem cd_r {a x b : Int} (ha : Pt a) (hx : Pt x) (hb : Pt b) (h : btw a x b = true) : cd a x < cd a b := by
  unfold Pt at ha hx hb
  unfold btw at h; unfold cd
  split at h
  · have := of_decide_eq_true h; omega
  · have := of_decide_eq_true h; omega
theorem cd_l {a x b : Int} (ha : Pt a) (hx : Pt x) (hb : Pt b) (h : btw a x b = true) : cd x b < cd a b := by
  unfold Pt at ha hx hb
  unfold btw at h; unfold cd
  split at h
  · have := of_decide_eq_true h; omega
  · have := of_decide_eq_true h; omega
theorem a1_live {r : List Nd} {id : Int} (h : RgSafe r) (hid : id ∈ ids r) (ha : a0 (ndAt r id) ∉ ids r) : a1 (ndAt r id) ∈ ids r := by
  obtain ⟨k, hk, hk'⟩ := h.2.1 _ (ndAt_mem hid)
  rw [aft2 (dr_len h hid)] at hk
  rcases List.mem_cons.1 hk with rfl | hk
  · exact absurd hk' ha
  · rcases List.mem_cons.1 hk with rfl | hk
    · exact hk'
    · cases hk
theorem dr_live {r : List Nd} {id : Int} (h : RgSafe r) (hid : id ∈ ids r) : a0 (ndAt (dr r id) id) ∈ ids (dr r id) := by
  rw [dr_ids]
  by_cases ha : a0 (ndAt r id) ∈ ids r
  · rw [dr_none (dropR_no fun h => h.2 ha)]; exact ha
  · have h1 := a1_live h hid ha
    have hd : dr r id = setN r id (id, (ndAt r id).2.1, [a1 (ndAt r id), (a1 (ndAt r id) + 1) % 64]) := by unfold dr; rw [dropR_yes ⟨hid, ha⟩]; rfl
    rw [hd, ndAt_setN hid rfl]; exact h1
theorem drop_mu {r : List Nd} {id : Int} (h : RgSafe r) : dropR r id = none ∨ m1 (dr r id) < m1 r := by
  by_cases hd : id ∈ ids r ∧ a0 (ndAt r id) ∉ ids r
  · right
    obtain ⟨hid, ha⟩ := hd
    have h1 := a1_live h hid ha
    have e : dr r id = setN r id (id, (ndAt r id).2.1, [a1 (ndAt r id), (a1 (ndAt r id) + 1) % 64]) := by unfold dr; rw [dropR_yes ⟨hid, ha⟩]; rfl
    rw [e]
    have hs := m1_set (n := (id, (ndAt r id).2.1, [a1 (ndAt r id), (a1 (ndAt r id) + 1) % 64])) hid rfl
    have e1 : wN (ids r) (id, (ndAt r id).2.1, [a1 (ndAt r id), (a1 (ndAt r id) + 1) % 64]) = cd id (a1 (ndAt r id)) + (if (ndAt r id).2.1 ∈ ids r then cd (ndAt r id).2.1 id else 100) := by
      show (if a1 (ndAt r id) ∈ ids r then _ else _) + _ = _
      rw [if_pos h1]; rfl
    have e2 : wN (ids r) (ndAt r id) = 100 + (if (ndAt r id).2.1 ∈ ids r then cd (ndAt r id).2.1 id else 100) := by
      unfold wN; rw [if_neg ha, ndAt_id hid]
    have := cd_lt id (a1 (ndAt r id))
    rw [e1, e2] at hs
    omega
  · exact .inl (dropR_no hd)
theorem foll_m1 {r : List Nd} {id s : Int} (hid : id ∈ ids r) (hs : s ∈ ids r) : m1 (foll r id s) + (if a0 (ndAt r id) ∈ ids r then cd id (a0 (ndAt r id)) else 100) = m1 r + cd id s := by
  have hq := m1_set (n := (id, (ndAt r id).2.1, [s, a0 (ndAt r s)])) hid rfl
  have e1 : wN (ids r) (id, (ndAt r id).2.1, [s, a0 (ndAt r s)]) = cd id s + (if (ndAt r id).2.1 ∈ ids r then cd (ndAt r id).2.1 id else 100) := by
    show (if s ∈ ids r then _ else _) + _ = _
    rw [if_pos hs]; rfl
  have e2 : wN (ids r) (ndAt r id) = (if a0 (ndAt r id) ∈ ids r then cd id (a0 (ndAt r id)) else 100) + (if (ndAt r id).2.1 ∈ ids r then cd (ndAt r id).2.1 id else 100) := by
    unfold wN; rw [ndAt_id hid]
  rw [e1, e2] at hq
  unfold foll
  omega
theorem close_mu {r : List Nd} {id o : Int} (h : RgSafe r) : closerR r id o = none ∨ m1 ((closerR r id o).getD r) < m1 r := by
  by_cases hd : id ∈ ids r ∧ o ∈ ids r ∧ btw id o (a0 (ndAt r id)) = true
  · right
    rw [closerR_yes hd]
    obtain ⟨hid, ho, hb⟩ := hd
    have := foll_m1 hid ho
    have h1 := cd_r (h.1.ptId hid) (h.1.ptId ho) (h.1.2.1 _ (ndAt_mem hid)).a0 hb
    have h2 := cd_lt id o
    show m1 (foll r id o) < _
    split at this <;> omega
  · exact .inl (closerR_no hd)
theorem notify_mu {r : List Nd} {id o : Int} (h : RgSafe r) : notifyR r id o = none ∨ m1 ((notifyR r id o).getD r) < m1 r := by
  by_cases hd : id ∈ ids r ∧ o ≠ id ∧ o ∈ ids r ∧ ((ndAt r id).2.1 = -1 ∨ (ndAt r id).2.1 ∉ ids r ∨ btw (ndAt r id).2.1 o id = true)
  · right
    rw [notifyR_yes hd]
    obtain ⟨hid, hne, ho, hb⟩ := hd
    show m1 (setN r id (id, o, (ndAt r id).2.2)) < _
    have hq := m1_set (n := (id, o, (ndAt r id).2.2)) hid rfl
    have e1 : wN (ids r) (id, o, (ndAt r id).2.2) = (if a0 (ndAt r id) ∈ ids r then cd id (a0 (ndAt r id)) else 100) + cd o id := by
      show _ + (if o ∈ ids r then _ else _) = _
      rw [if_pos ho]; rfl
    have e2 : wN (ids r) (ndAt r id) = (if a0 (ndAt r id) ∈ ids r then cd id (a0 (ndAt r id)) else 100) + (if (ndAt r id).2.1 ∈ ids r then cd (ndAt r id).2.1 id else 100) := by
      unfold wN; rw [ndAt_id hid]
    rw [e1, e2] at hq
    have h2 := cd_lt o id
    by_cases hm : (ndAt r id).2.1 ∈ ids r
    · rw [if_pos hm] at hq
      have hp := h.1.ptId hm
      rcases hb with hb | hb | hb
      · rw [hb] at hp; unfold Pt at hp; omega
      · exact absurd hm hb
      · have := cd_l hp (h.1.ptId ho) (h.1.ptId hid) hb
        omega
    · rw [if_neg hm] at hq; omega
  · exact .inl (notifyR_no hd)
theorem ndAt_else {r : List Nd} {id k : Int} {n : Nd} (hid : id ∈ ids r) (h : n.1 = id) (hk : k ≠ id) : ndAt (setN r id n) k = ndAt r k := by
  unfold ndAt
  rw [fx_ids (ids_setN hid h)]
  unfold setN
  rw [List.getD_eq_getElem?_getD, List.getD_eq_getElem?_getD, List.getElem?_set]
  split
  · next e =>
    split
    · next hl =>
      exfalso; apply hk
      have := List.findIdx_getElem (p := fun x : Nd => x.1 == k) (w := show List.findIdx (fun x : Nd => x.1 == k) r < r.length by unfold fx at e hl; omega)
      have h2 := List.findIdx_getElem (p := fun x : Nd => x.1 == id) (w := fx_lt hid)
      have e3 : List.findIdx (fun x : Nd => x.1 == k) r = List.findIdx (fun x : Nd => x.1 == id) r := by unfold fx at e; exact e.symm
      simp only [e3] at this
      exact (eq_of_beq this).symm.trans (eq_of_beq h2)
    · next hl => exact absurd (fx_lt hid) hl
  · rfl
theorem setN_self {r : List Nd} {id : Int} (hid : id ∈ ids r) : setN r id (ndAt r id) = r := by
  unfold setN; rw [← ndAt_eq hid]; exact List.set_getElem_self _
theorem adopt_mu {r : List Nd} {id : Int} (_h : RgSafe r) : ad1 r id = r ∨ (m1 (ad1 r id) = m1 r ∧ bad (ad1 r id) < bad r) := by
  by_cases hd : id ∈ ids r ∧ a0 (ndAt r id) ∈ ids r
  · have e : ad1 r id = foll r id (a0 (ndAt r id)) := by unfold ad1; rw [adoptR_yes hd]; rfl
    rw [e]
    obtain ⟨hid, ha⟩ := hd
    by_cases hb : (ndAt r id).2.2 = [a0 (ndAt r id), a0 (ndAt r (a0 (ndAt r id)))]
    · left
      have : (id, (ndAt r id).2.1, [a0 (ndAt r id), a0 (ndAt r (a0 (ndAt r id)))]) = ndAt r id := by
        rw [← hb]; exact Prod.ext (ndAt_id hid).symm rfl
      unfold foll; rw [this]; exact setN_self hid
    · right
      have hm := foll_m1 hid ha
      rw [if_pos ha] at hm
      refine ⟨by omega, ?_⟩
      have hc : ∀ k, a0 (ndAt (foll r id (a0 (ndAt r id))) k) = a0 (ndAt r k) := by
        intro k
        by_cases hk : k = id
        · subst hk; exact a0_foll hid
        · unfold foll; rw [ndAt_else hid rfl hk]
      have hf : bad1 (foll r id (a0 (ndAt r id))) = bad1 r := by
        funext x; unfold bad1; rw [hc]
      unfold bad
      rw [hf]
      have := cnt_put (bad1 r) r (fx r id) (fx_lt hid) (id, (ndAt r id).2.1, [a0 (ndAt r id), a0 (ndAt r (a0 (ndAt r id)))])
      rw [ndAt_eq hid] at this
      have e1 : bad1 r (ndAt r id) = true := decide_eq_true hb
      have e2 : bad1 r (id, (ndAt r id).2.1, [a0 (ndAt r id), a0 (ndAt r (a0 (ndAt r id)))]) = false := decide_eq_false (fun h => h rfl)
      rw [e1, e2, if_pos rfl, if_neg (by simp)] at this
      unfold foll setN
      omega
  · left; unfold ad1; rw [adoptR_no hd]; rfl
theorem bad_le {r : List Nd} (h : RgSafe r) : bad r ≤ 10 := Nat.le_trans List.countP_le_length h.1.1
theorem stab_cases {r : List Nd} {id : Int} (h : RgSafe r) (_hid : id ∈ ids r) : m1 (stabR r id) < m1 r ∨ (stabR r id = ad1 r id ∧ dropR r id = none ∧
    (0 ≤ (ndAt (ad1 r id) (a0 (ndAt (ad1 r id) id))).2.1 → closerR (ad1 r id) id (ndAt (ad1 r id) (a0 (ndAt (ad1 r id) id))).2.1 = none) ∧ notifyR (ad1 r id) (a0 (ndAt (ad1 r id) id)) id = none) := by
  have hc : ∀ q : List Nd, RgSafe q → m1 (clo1 q id) ≤ m1 q ∧ (m1 (clo1 q id) < m1 q ∨ (clo1 q id = q ∧ (0 ≤ (ndAt q (a0 (ndAt q id))).2.1 → closerR q id (ndAt q (a0 (ndAt q id))).2.1 = none))) := by
    intro q hq
    unfold clo1
    split
    · next h0 =>
      rcases close_mu (id := id) (o := (ndAt q (a0 (ndAt q id))).2.1) hq with hn | hl
      · rw [hn]; exact ⟨Nat.le_refl _, .inr ⟨rfl, fun _ => rfl⟩⟩
      · exact ⟨by omega, .inl hl⟩
    · next h0 => exact ⟨Nat.le_refl _, .inr ⟨rfl, fun g => absurd g h0⟩⟩
  have hn : ∀ q : List Nd, RgSafe q → m1 (not1 q id) ≤ m1 q ∧ (m1 (not1 q id) < m1 q ∨ (not1 q id = q ∧ notifyR q (a0 (ndAt q id)) id = none)) := by
    intro q hq
    unfold not1
    rcases notify_mu (id := a0 (ndAt q id)) (o := id) hq with hn | hl
    · rw [hn]; exact ⟨Nat.le_refl _, .inr ⟨rfl, rfl⟩⟩
    · exact ⟨by omega, .inl hl⟩
  have ha : ∀ q : List Nd, RgSafe q → m1 (ad1 q id) = m1 q := by
    intro q hq
    rcases adopt_mu (id := id) hq with h | h
    · rw [h]
    · exact h.1
  have hd : m1 (drN 2 r id) ≤ m1 r ∧ (m1 (drN 2 r id) < m1 r ∨ (drN 2 r id = r ∧ dropR r id = none)) := by
    rcases drop_mu (id := id) h with hn | hl
    · rw [drN_fix (dr_none hn)]; exact ⟨Nat.le_refl _, .inr ⟨rfl, hn⟩⟩
    · have h2 : m1 (drN 2 r id) ≤ m1 (dr r id) := by
        show m1 (dr (dr r id) id) ≤ _
        rcases drop_mu (id := id) (dr_safe (id := id) h) with hn | hl
        · rw [dr_none hn]; exact Nat.le_refl _
        · omega
      exact ⟨by omega, .inl (by omega)⟩
  have hs1 := drN_safe (id := id) 2 r h
  have hs2 := ad1_safe (id := id) hs1
  have hs3 := clo1_safe (id := id) hs2
  have h1 := ha _ hs1
  have h2 := hc _ hs2
  have h3 := hn _ hs3
  unfold stabR
  rcases hd.2 with h4 | ⟨h4, h5⟩
  · left; omega
  · rw [h4] at h1 h2 h3 ⊢
    rcases h2.2 with h6 | ⟨h6, h7⟩
    · left; omega
    · rw [h6] at h3 ⊢
      rcases h3.2 with h8 | ⟨h8, h9⟩
      · left; omega
      · right; rw [h8]; exact ⟨rfl, h5, h7, h9⟩
theorem stab_mu {r : List Nd} {id : Int} (h : RgSafe r) (hid : id ∈ ids r) : stabR r id = r ∨ msr (stabR r id) < msr r := by
  have hb := bad_le (stabR_safe (id := id) h)
  rcases stab_cases h hid with h1 | ⟨h1, _⟩
  · right; unfold msr; omega
  · rw [h1] at hb ⊢
    rcases adopt_mu (id := id) h with h2 | h2
    · exact .inl h2
    · right; unfold msr; omega
def rndR (r : List Nd) (ks : List Int) : List Nd := ks.foldl stabR r
def rnd (r : List Nd) : List Nd := rndR r (ids r)
theorem rndR_safe : ∀ (ks : List Int) {r : List Nd}, RgSafe r → RgSafe (rndR r ks)
  | [], _, h => h
  | _ :: ks, _, h => rndR_safe ks (stabR_safe h)
theorem rndR_ids : ∀ (ks : List Int) {r : List Nd}, ids (rndR r ks) = ids r
  | [], _ => rfl
  | _ :: ks, _ => (rndR_ids ks).trans stabR_ids
theorem rndR_mu : ∀ (ks : List Int) {r : List Nd}, RgSafe r → (∀ k ∈ ks, k ∈ ids r) → ((∀ k ∈ ks, stabR r k = r) ∧ rndR r ks = r) ∨ msr (rndR r ks) < msr r
  | [], _, _, _ => .inl ⟨fun _ h => (nomatch h), rfl⟩
  | k :: ks, r, h, hk => by
    have h2 := rndR_mu ks (stabR_safe (id := k) h) (fun x hx => by rw [stabR_ids]; exact hk x (List.mem_cons_of_mem _ hx))
    rcases stab_mu h (hk k (List.mem_cons_self ..)) with h1 | h1
    · rw [h1] at h2
      rcases h2 with ⟨h3, h4⟩ | h3
      · refine .inl ⟨fun x hx => ?_, ?_⟩
        · rcases List.mem_cons.1 hx with rfl | hx
          · exact h1
          · exact h3 x hx
        · show rndR (stabR r k) ks = r; rw [h1]; exact h4
      · right; show msr (rndR (stabR r k) ks) < _; rw [h1]; exact h3
    · right; show msr (rndR (stabR r k) ks) < _
      rcases h2 with ⟨_, h4⟩ | h3
      · rw [h4]; exact h1
      · omega
theorem rnd_safe {r : List Nd} (h : RgSafe r) : RgSafe (rnd r) := rndR_safe _ h
theorem rnd_ids {r : List Nd} : ids (rnd r) = ids r := rndR_ids _
theorem rnd_mu {r : List Nd} (h : RgSafe r) : ((∀ k ∈ ids r, stabR r k = r) ∧ rnd r = r) ∨ msr (rnd r) < msr r := rndR_mu _ h fun _ h => h
def calR (r : List Nd) : List Nd := if msr (rnd r) < msr r then calR (rnd r) else r
termination_by msr r
theorem calR_same {r : List Nd} (h : rnd r = r) : calR r = r := by rw [calR, if_neg (by rw [h]; omega)]
theorem calR_step {r : List Nd} (hs : RgSafe r) (h : rnd r ≠ r) : calR r = calR (rnd r) ∧ msr (rnd r) < msr r := by
  have : msr (rnd r) < msr r := by
    rcases rnd_mu hs with ⟨_, h1⟩ | h1
    · exact absurd h1 h
    · exact h1
  exact ⟨by rw [calR, if_pos this], this⟩
theorem calR_fix {r : List Nd} (hs : RgSafe r) : RgSafe (calR r) ∧ ids (calR r) = ids r ∧ rnd (calR r) = calR r := by
  by_cases h : rnd r = r
  · rw [calR_same h]; exact ⟨hs, rfl, h⟩
  · obtain ⟨h1, h2⟩ := calR_step hs h
    rw [h1]
    have := calR_fix (rnd_safe hs)
    exact ⟨this.1, this.2.1.trans rnd_ids, this.2.2⟩
termination_by msr r
theorem inj_next {n : Nat} {f : Nat → Nat} (hf : ∀ i, i < n → f i < n) (hj : ∀ i j, i < n → j < n → f i = f j → i = j) (hg : ∀ i, i < n → f i = 0 ∨ i < f i) :
    ∀ d i, i + d + 1 = n → f i = if i + 1 < n then i + 1 else 0 := by
  intro d
  induction d using Nat.strongRecOn with
  | ind d ih =>
    intro i hi
    have h1 := hf i (by omega)
    rcases hg i (by omega) with h2 | h2
    · split
      · next hl =>
        have h3 := ih 0 (by omega) (n - 1) (by omega)
        rw [if_neg (by omega)] at h3
        have := hj i (n - 1) (by omega) (by omega) (by rw [h2, h3])
        omega
      · exact h2
    · rw [if_pos (by omega)]
      rcases Nat.eq_or_lt_of_le (show i + 1 ≤ f i from h2) with h4 | h4
      · exact h4.symm
      · exfalso
        have h3 := ih (n - (f i - 1) - 1) (by omega) (f i - 1) (by omega)
        rw [if_pos (by omega)] at h3
        have := hj i (f i - 1) (by omega) (by omega) (by omega)
        omega
theorem setN_fix {r : List Nd} {id : Int} {n : Nd} (hid : id ∈ ids r) (h : n.1 = id) (he : setN r id n = r) : ndAt r id = n := by
  have := ndAt_setN hid h
  rw [he] at this; exact this
theorem prin_two {r : List Nd} (h : RgSafe r) (k : Int) : ∃ p ∈ ids r, p ≠ k ∧ ∀ x ∈ r, skn x p = false := by
  have hp := h.2.2
  have hs : (prin r).Sublist (ids r) := List.filter_sublist
  have hnd : (prin r).Pairwise (· < ·) := h.1.pw.sublist hs
  have hm : ∀ p ∈ prin r, p ∈ ids r ∧ ∀ x ∈ r, skn x p = false := by
    intro p hp
    obtain ⟨h1, h2⟩ := List.mem_filter.1 hp
    refine ⟨h1, fun x hx => ?_⟩
    rw [Bool.not_eq_true', List.any_eq_false] at h2
    have := h2 x hx
    simpa using this
  match he : prin r, hp, hnd with
  | a :: b :: l, _, hnd =>
    have hab : a < b := List.rel_of_pairwise_cons hnd (List.mem_cons_self ..)
    have ha := hm a (by rw [he]; exact List.mem_cons_self ..)
    have hb := hm b (by rw [he]; exact List.mem_cons_of_mem _ (List.mem_cons_self ..))
    by_cases hk : a = k
    · exact ⟨b, hb.1, by omega, hb.2⟩
    · exact ⟨a, ha.1, hk, ha.2⟩
theorem ids3 {r : List Nd} (h : RgSafe r) : 3 ≤ (ids r).length := by
  have hs : (prin r).Sublist (ids r) := List.filter_sublist
  exact Nat.le_trans h.2.2 hs.length_le
theorem fix_node {r : List Nd} (h : RgSafe r) {k : Int} (hk : k ∈ ids r) (hf : stabR r k = r) :
    a0 (ndAt r k) ∈ ids r ∧ (ndAt r k).2.2 = [a0 (ndAt r k), a0 (ndAt r (a0 (ndAt r k)))] ∧ (ndAt r (a0 (ndAt r k))).2.1 = k := by
  rcases stab_cases h hk with h1 | ⟨h1, h2, h3, h4⟩
  · rw [hf] at h1; omega
  rw [hf] at h1
  rw [← h1] at h3 h4
  have hs : a0 (ndAt r k) ∈ ids r := by
    by_cases hs : a0 (ndAt r k) ∈ ids r
    · exact hs
    · rw [dropR_yes ⟨hk, hs⟩] at h2; cases h2
  have hb : (ndAt r k).2.2 = [a0 (ndAt r k), a0 (ndAt r (a0 (ndAt r k)))] := by
    have e : ad1 r k = foll r k (a0 (ndAt r k)) := by unfold ad1; rw [adoptR_yes ⟨hk, hs⟩]; rfl
    have := setN_fix (n := (k, (ndAt r k).2.1, [a0 (ndAt r k), a0 (ndAt r (a0 (ndAt r k)))])) hk rfl (by rw [e] at h1; exact h1.symm)
    exact congrArg (·.2.2) this
  refine ⟨hs, hb, ?_⟩
  obtain ⟨p, hp, hpk, hsk⟩ := prin_two h k
  have hlen := dr_len h hk
  have hks : k ≠ a0 (ndAt r k) := by
    intro he
    have := hsk _ (ndAt_mem hk)
    rw [skn2 hlen, ndAt_id hk, ← he] at this
    unfold btw at this
    rw [if_neg (by omega)] at this
    have h5 : decide (k < p ∨ p < k) = false := by
      cases hd : decide (k < p ∨ p < k) with
      | false => rfl
      | true => rw [hd] at this; cases this
    have := of_decide_eq_false h5
    omega
  have hn : ¬ ((ndAt r (a0 (ndAt r k))).2.1 = -1 ∨ (ndAt r (a0 (ndAt r k))).2.1 ∉ ids r ∨ btw (ndAt r (a0 (ndAt r k))).2.1 k (a0 (ndAt r k)) = true) := by
    intro hc
    rw [notifyR_yes ⟨hs, hks, hk, hc⟩] at h4; cases h4
  generalize hq : (ndAt r (a0 (ndAt r k))).2.1 = q at h3 hn
  have hq1 : q ∈ ids r := Classical.byContradiction fun g => hn (.inr (.inl g))
  have hq2 := h.1.ptId hq1
  have hc := h3 (by unfold Pt at hq2; omega)
  have hc2 : ¬ btw k q (a0 (ndAt r k)) = true := by
    intro g
    rw [closerR_yes ⟨hk, hq1, g⟩] at hc; cases hc
  have hc3 : ¬ btw q k (a0 (ndAt r k)) = true := fun g => hn (.inr (.inr g))
  unfold btw at hc2 hc3
  generalize a0 (ndAt r k) = s at hks hc2 hc3
  split at hc2 <;> split at hc3 <;> simp only [decide_eq_true_eq] at hc2 hc3 <;> omega
theorem fx_ix {r : List Nd} (h : RgOk r) {i : Nat} (hi : i < r.length) : fx r ((ids r)[i]'(by rw [ids_len]; exact hi)) = i := by
  have hm : (ids r)[i]'(by rw [ids_len]; exact hi) = r[i].1 := by
    have : (ids r)[i]? = some r[i].1 := by unfold ids; rw [List.getElem?_map, List.getElem?_eq_getElem hi]; rfl
    exact Option.some.inj ((List.getElem?_eq_getElem _).symm.trans this)
  refine fx_eq hi (fun _ hx => ?_) hm.symm
  obtain ⟨j, hj, rfl⟩ := List.mem_take_iff_getElem.1 hx
  have := List.pairwise_iff_getElem.1 h.2.2 j i (by omega) hi (by omega)
  rw [hm]; simp only at this; omega
theorem ndAt_ix {r : List Nd} (h : RgOk r) {i : Nat} (hi : i < r.length) : ndAt r ((ids r)[i]'(by rw [ids_len]; exact hi)) = r[i] := by
  unfold ndAt
  rw [fx_ix h hi, List.getD_eq_getElem?_getD, List.getElem?_eq_getElem hi]; rfl
theorem ids_asc {r : List Nd} (h : RgOk r) : Asc (ids r) := ⟨fun _ hx => h.ptId hx, h.pw⟩
theorem next_all {n m : Nat} {T : Nat → Nat} (h3 : 3 ≤ n) (hm : m < n) (hT1 : ∀ {i}, i < n → T i < n) (hinj : ∀ i j, i < n → j < n → T i = T j → i = j)
    (hix : ∀ {i}, i < n → ¬ (if i < T i then i < m ∧ m < T i else i < m ∨ m < T i)) {i : Nat} (hi : i < n) : T i = (i + 1) % n := by
  have rt : ∀ i, i < n → (m + i) % n = if m + i < n then m + i else m + i - n := by
    intro i hi
    split
    · next g => exact Nat.mod_eq_of_lt g
    · next g => rw [Nat.mod_eq_sub_mod (by omega), Nat.mod_eq_of_lt (by omega)]
  have bk : ∀ j, j < n → (j + n - m) % n = if m ≤ j then j - m else j + n - m := by
    intro j hj
    split
    · next g => rw [Nat.mod_eq_sub_mod (by omega), Nat.mod_eq_of_lt (by omega)]; omega
    · next g => exact Nat.mod_eq_of_lt (by omega)
  have hfl : ∀ i, i < n → (m + i) % n < n := fun i _ => Nat.mod_lt _ (by omega)
  have hnx := inj_next (n := n) (f := fun i => (T ((m + i) % n) + n - m) % n) (fun i hi => Nat.mod_lt _ (by omega))
    (by
      intro i j hi hj he
      have a1 := hT1 (hfl i hi)
      have a2 := hT1 (hfl j hj)
      rw [bk _ a1, bk _ a2] at he
      have := hinj _ _ (hfl i hi) (hfl j hj) (by split at he <;> split at he <;> omega)
      rw [rt i hi, rt j hj] at this
      split at this <;> split at this <;> omega)
    (by
      intro i hi
      have a1 := hT1 (hfl i hi)
      have a2 := hix (hfl i hi)
      rw [bk _ a1]
      have a3 := rt i hi
      generalize (m + i) % n = q at a1 a2 a3 ⊢
      generalize T q = t at a1 a2 ⊢
      split at a2 <;> split at a3 <;> split <;> omega)
  have h1 := hnx (n - (i + n - m) % n - 1) ((i + n - m) % n) (by have := Nat.mod_lt (i + n - m) (show n > 0 by omega); omega)
  have e : (m + (i + n - m) % n) % n = i := by rw [Nat.add_mod_mod, show m + (i + n - m) = i + n by omega, Nat.add_mod_right, Nat.mod_eq_of_lt hi]
  rw [e] at h1
  have a1 := hT1 hi
  rw [bk _ a1, bk _ hi] at h1
  have e2 : (i + 1) % n = if i + 1 < n then i + 1 else 0 := by
    split
    · next g => exact Nat.mod_eq_of_lt g
    · next g => rw [show i + 1 = n by omega, Nat.mod_self]
  rw [e2]
  generalize T i = t at h1 a1 ⊢
  split at h1 <;> split at h1 <;> split at h1 <;> split <;> omega
theorem fix_ideal {r : List Nd} (h : RgSafe r) (hf : ∀ k ∈ ids r, stabR r k = r) : r = idl (ids r) := by
  have h3 := ids3 h
  have ha := ids_asc h.1
  generalize hxs : ids r = xs at h3 ha
  have hn : xs.length = r.length := by rw [← hxs, ids_len]
  have hmem : ∀ {i} (hi : i < xs.length), xs[i] ∈ ids r := fun hi => by rw [hxs]; exact List.getElem_mem hi
  -- where each node's successor stands
  have hT : ∀ i : Nat, ∃ j : Nat, ∀ hi : i < xs.length, ∃ hj : j < xs.length, xs[j] = a0 (ndAt r xs[i]) := by
    intro i
    by_cases hi : i < xs.length
    · have := (fix_node h (hmem hi) (hf _ (hmem hi))).1
      rw [hxs] at this
      obtain ⟨j, hj, he⟩ := List.getElem_of_mem this
      exact ⟨j, fun _ => ⟨hj, he⟩⟩
    · exact ⟨0, fun g => absurd g hi⟩
  let T : Nat → Nat := fun i => Classical.choose (hT i)
  have hT1 : ∀ {i}, i < xs.length → T i < xs.length := fun {i} hi => (Classical.choose_spec (hT i) hi).1
  have hT2 : ∀ {i} (hi : i < xs.length), xs[T i]'(hT1 hi) = a0 (ndAt r xs[i]) := fun {i} hi => (Classical.choose_spec (hT i) hi).2
  clear_value T
  have hB : ∀ {i} (hi : i < xs.length), (ndAt r (xs[T i]'(hT1 hi))).2.1 = xs[i] := fun {i} hi => by
    rw [hT2 hi]; exact (fix_node h (hmem hi) (hf _ (hmem hi))).2.2
  have hinj : ∀ i j, i < xs.length → j < xs.length → T i = T j → i = j := by
    intro i j hi hj he
    have e1 := hB hi
    have e2 := hB hj
    simp only [he] at e1
    have e3 : xs[i] = xs[j] := e1.symm.trans e2
    have g1 := ha.mono hi hj
    have g2 := ha.mono hj hi
    rcases Nat.lt_trichotomy i j with g | g | g
    · have := g1.2 g; omega
    · exact g
    · have := g2.2 g; omega
  obtain ⟨p, hp, _, hsk⟩ := prin_two h (-1)
  rw [hxs] at hp
  obtain ⟨m, hm, rfl⟩ := List.getElem_of_mem hp
  have hbt : ∀ {i} (hi : i < xs.length), btw xs[i] xs[m] (xs[T i]'(hT1 hi)) = false := by
    intro i hi
    have := hsk _ (ndAt_mem (hmem hi))
    rw [skn2 (dr_len h (hmem hi)), ndAt_id (hmem hi), ← hT2 hi] at this
    exact (Bool.or_eq_false_iff.1 this).1
  have hix : ∀ {i} (hi : i < xs.length), ¬ (if i < T i then i < m ∧ m < T i else i < m ∨ m < T i) := by
    intro i hi
    have := hbt hi
    unfold btw at this
    have g1 := ha.mono hi (hT1 hi)
    have g2 := ha.mono hi hm
    have g3 := ha.mono hm (hT1 hi)
    by_cases hc : i < T i
    · rw [if_pos (g1.2 hc)] at this
      have := of_decide_eq_false this
      rw [if_pos hc]
      exact fun g => this ⟨g2.2 g.1, g3.2 g.2⟩
    · rw [if_neg (fun g => hc (g1.1 g))] at this
      have := of_decide_eq_false this
      rw [if_neg hc]
      exact fun g => this (g.imp g2.2 g3.2)
  have hTn : ∀ {i}, i < xs.length → T i = (i + 1) % xs.length := fun {i} hi => next_all h3 hm (fun h => hT1 h) hinj (fun h => hix h) hi
  apply List.ext_getElem
  · simp [idl, hn]
  · intro i hi hi2
    have hi' : i < xs.length := by omega
    have e0 : r[i] = ndAt r (xs[i]'(by omega)) := by
      rw [← ndAt_ix h.1 hi]; congr 1; simp only [hxs]
    have e1 : (idl xs)[i] = idN xs i := by
      have : (idl xs)[i]? = some (idN xs i) := by unfold idl; rw [List.getElem?_map, List.getElem?_range (by omega)]; rfl
      exact Option.some.inj ((List.getElem?_eq_getElem hi2).symm.trans this)
    rw [e0, e1, idN_eq (by omega) (by omega)]
    have hfn := fix_node h (hmem hi') (hf _ (hmem hi'))
    have hpi : (i + xs.length - 1) % xs.length < xs.length := Nat.mod_lt _ (by omega)
    have hpT : T ((i + xs.length - 1) % xs.length) = i := by
      rw [hTn hpi, Nat.mod_add_mod, show i + xs.length - 1 + 1 = i + xs.length by omega, Nat.add_mod_right, Nat.mod_eq_of_lt hi']
    have hb := hB hpi
    simp only [hpT] at hb
    have hs := hT2 hi'
    have hs2 := hT2 (hT1 hi')
    simp only [hTn hi'] at hs hs2
    have hl : (i + 1) % xs.length < xs.length := Nat.mod_lt _ (by omega)
    simp only [hTn hl] at hs2
    refine Prod.ext (ndAt_id (hmem hi')) (Prod.ext ?_ ?_)
    · exact hb
    · rw [hfn.2.1]; rw [← hs, hs2]
theorem calR_ideal {r : List Nd} (h : RgSafe r) : calR r = idl (ids r) := by
  obtain ⟨h1, h2, h3⟩ := calR_fix h
  have : calR r = idl (ids (calR r)) := fix_ideal h1 (by
    rcases rnd_mu h1 with ⟨g, _⟩ | g
    · exact g
    · rw [h3] at g; omega)
  rw [h2] at this; exact this
open Go
def OSx (sz : Nat) (t : TypeId) (v : Value) (m : Nat) (cs : List Value) (A : Own) : Prop :=
  OS sz t v m cs A ∨ (m = 0 ∧ A = [] ∧ cs = [] ∧ ∃ b : Nat, v = .slice (some ⟨b, 0, none⟩) 0 0)
theorem ints_flat (xs : List Int) : ints xs = xs.flatMap fun n => [.int .i64 n] := by
  induction xs with
  | nil => rfl
  | cons x xs ih => rw [List.flatMap_cons, ← ih]; rfl
section
variable {sz m : Nat} {t : TypeId} {v : Value} {cs : List Value} {A : Own}
theorem OSx.slw (h : OSx sz t v m cs A) : SlW v m := by
  rcases h with h | ⟨rfl, _, _, b, rfl⟩
  · exact h.slw
  · exact ⟨_, _, rfl, Nat.le_refl _, Nat.zero_le _, .inr ⟨_, _, rfl⟩⟩
theorem OSx.one (h : OSx sz t v m cs A) : one v = true := h.slw.one
theorem OSx.pub {α : Type} {c : α → List Value} {xs : List α} {e w : World} {G : View} {L : Own} (hc : ∀ x, (c x).length = sz) (hK : K e w G (A ++ L)) (ho : OSx sz t v xs.length (xs.flatMap c) A) :
    ∃ G', VLe G G' ∧ SlR sz (EF c) G' v xs ∧ K e w G' L := by
  rcases ho with ho | ⟨h0, rfl, _, b, rfl⟩
  · exact K.pubE hc hK ho
  · obtain rfl := List.eq_nil_of_length_eq_zero h0
    exact ⟨G, VLe.refl _, SlR.lit0, hK⟩
end
section
variable {P : Program} {n : Nat} {Q : Po} {f : Sl} {w e : World} {G : View} {L A : Own} {ops : Array Oper} {rest : List Oper} {d : Nat} {pos : String} {af : Array Edge}
theorem apE1x {α : Type} {c : α → List Value} {T E' E2 ty' b2 by' sz : Nat} {z : Value} {v : Value} {x y : Operand} {xs : List α} {k : α} (hc : ∀ x, (c x).length = sz) (hone : (c k).all one = true) (hK : K e w G ((b2, row (c k) E2) :: (A ++ L))) (hT : P.underlying T = some (.slice E')) (hi : Inf P E' z sz by') (hz : z.cells.size = sz) (hby : Nat.ble by' 1000 = true)
    (hx : ev n f x = v) (ho : OSx sz E' v xs.length (xs.flatMap c) A) (hy : ev n f y = .slice (some ⟨b2, 0, none⟩) 1 1) (hmk : xs.length + 1 ≤ 1000000000)
    (h : ∀ v' A' w1, OS sz E' v' (xs ++ [k]).length ((xs ++ [k]).flatMap c) A' → K e w1 G (A' ++ L) → WL P n ops Q rest (upd f d v') w1) :
    WL P n ops Q (⟨some d, .call ⟨.builtin .append, #[x, y], #[T, T]⟩, ty', pos, af, none⟩ :: rest) f w := by
  rcases ho with ho | ⟨h0, rfl, _, b, rfl⟩
  · exact apE1 hc hone hK hT hi hz hby hx ho hy hmk h
  · obtain rfl := List.eq_nil_of_length_eq_zero h0
    have hb := hK.own b2 _ (List.mem_cons_self ..)
    obtain ⟨v', A', w1, hr, h2, h3⟩ := run_append0 (P := P) (ty' := ty') (bb := b) (news := c k) (k := 1) (b2 := some ⟨b2, 0, none⟩) (c2 := 1) hK hT hi hz (by rw [hc, Nat.one_mul]) (.inr ⟨_, _, rfl⟩) (fun j u hj => by simp only [elA, Nat.zero_add]; rw [row_cell hb]; exact hj) (by omega) (Nat.le_of_ble_eq_true hby)
    rcases h3 with ⟨h4, _⟩ | h3
    · cases h4
    · refine vl ?_ (h v' A' w1 (by simpa using h3) (K.drop1 (K.back1 h2)))
      unfold St execOp
      simp only [resolve, Sem.run_bind, Sem.run_pure, Result.andThen_ok, invoke, builtin, List.map_toArray, List.map_cons, List.map_nil, hx, hy, hr]
end
structure WdO (G : View) (lc : Ls → List Value) (tI tS : TypeId) (W : Wv) (w : Wd) (rs : List Rn) (AI AS : Own) : Prop where
  now : W.now = w.now
  ring : RngS G W.r rs
  rg : rgl rs = w.ring
  leases : SlR 3 (EF lc) G W.l w.leases
  items : OSx 2 tI W.i w.items.length (w.items.flatMap ic) AI
  next : W.next = w.scan.1
  told : IntS G W.t w.scan.2
  since : OSx 1 tS W.s w.since.length (w.since.flatMap fun n => [.int .i64 n]) AS
section
variable {G G' : View} {lc : Ls → List Value} {tI tS : TypeId} {W : Wv} {wd : Wd} {rs : List Rn} {AI AS L : Own} {e w : World}
theorem WdO.mono (h : WdO G lc tI tS W wd rs AI AS) (hG : VLe G G') : WdO G' lc tI tS W wd rs AI AS :=
  ⟨h.now, h.ring.mono hG, h.rg, EF.mono h.leases hG, h.items, h.next, h.told.mono hG, h.since⟩
theorem WdO.one (h : WdO G lc tI tS W wd rs AI AS) : (wc W).all Ro.one = true :=
  allc rfl (allc h.ring.sl.1.one (allc h.leases.1.one (allc h.items.one (allc rfl (allc h.told.1.one (allc h.since.one rfl))))))
theorem WdO.pub (h : WdO G lc tI tS W wd rs AI AS) (hK : K e w G (AI ++ (AS ++ L))) : ∃ G', VLe G G' ∧ WdS G' lc W wd rs ∧ K e w G' L := by
  obtain ⟨G1, g1, h1, hK⟩ := OSx.pub (c := ic) (fun _ => rfl) hK h.items
  obtain ⟨G2, g2, h2, hK⟩ := OSx.pub (c := fun n => [.int .i64 n]) (fun _ => rfl) hK h.since
  exact ⟨G2, g1.trans g2, ⟨h.now, h.ring.mono (g1.trans g2), h.rg, EF.mono h.leases (g1.trans g2), EF.mono h1 g2, h.next, h.told.mono (g1.trans g2), h2⟩, hK⟩
end
section
variable {P : Program} {n : Nat} {Q : Po} {f : Sl} {w : World} {ops : Array Oper} {S : World → Prop} {k : Nat} {l l' : List Bool}
theorem xe3 {i j m : Nat} {o u t : Oper} {l2 l3 : List Bool} (hr : Region.ready .any ops l.toArray = [i, j, m]) (hi : ops[i]? = some o) (hj : ops[j]? = some u) (hm : ops[m]? = some t) (hl : l.set i true = l') (hl2 : l.set j true = l2) (hl3 : l.set m true = l3)
    (h : WL P n ops (Xp P n ops S Q k l') [o] f w) (h2 : WL P n ops (Xp P n ops S Q k l2) [u] f w) (h3 : WL P n ops (Xp P n ops S Q k l3) [t] f w) : WX P n ops S Q (k + 1) l f w := by
  refine wpAnyH_all hr (by simp) ?_
  intro a ha
  rcases List.mem_cons.1 ha with rfl | ha
  · exact xop hi hl h
  rcases List.mem_cons.1 ha with rfl | ha
  · exact xop hj hl2 h2
  · obtain rfl := List.mem_singleton.1 ha
    exact xop hm hl3 h3
end
end Go.Ro
