/- A slice of slices that the walk owns, inner ones and all. Leases and scans, in plain lists. Conditions: those that each row states. -/
import Derived.Test.YtmgggljicpmndaaGreatDoorRd
namespace Go.Ro
open Go
theorem count_sum {α : Type} [DecidableEq α] (a : α) : ∀ l : List α, l.count a = (l.map (fun x => if x = a then 1 else 0)).sum
  | [] => rfl
  | x :: l => by
    simp only [List.count_cons, List.map_cons, List.sum_cons, count_sum a l, beq_iff_eq]
    omega
theorem K.cnt {e w : World} {G : View} {L L' : Own} (hK : K e w G L) (h : ∀ f : Nat × Obj → Nat, (L'.map f).sum = (L.map f).sum) : K e w G L' := by
  classical
  refine hK.perm ((@List.perm_iff_count (Nat × Obj) instBEqOfDecidableEq inferInstance _ _).2 fun a => ?_)
  have := h (fun x => if x = a then 1 else 0)
  have h1 := count_sum a L
  have h2 := count_sum a L'
  exact h2.trans (this.trans h1.symm)
def OSS (t : TypeId) (us : List (Value × List Int × Own)) : Prop := ∀ p ∈ us, OS 1 t p.1 p.2.1.length (ints p.2.1) p.2.2
def vals (us : List (Value × List Int × Own)) : List Value := us.map (·.1)
def flat (us : List (Value × List Int × Own)) : Own := us.flatMap (·.2.2)
theorem K.reo {e w : World} {G : View} {L L' : Own} (hK : K e w G L) (h : ∀ f : Nat × Obj → Nat, (L'.map f).sum = (L.map f).sum := by intro f; simp only [List.map_append, List.map_cons, List.map_nil, List.sum_append, List.sum_cons, List.sum_nil]; omega) : K e w G L' := hK.cnt h
theorem om {p : Prop} (h : p := by first | omega | (simp only; omega)) : p := h
theorem kr {p : Prop} (h : p := by kernel_rfl) : p := h
theorem OSS.nil {t : TypeId} : OSS t [] := fun p hp => absurd hp (by simp)
theorem OSS.snoc {t : TypeId} {us : List (Value × List Int × Own)} (h : OSS t us) {v : Value} {xs : List Int} {A : Own} (ho : OS 1 t v xs.length (ints xs) A) : OSS t (us ++ [(v, xs, A)]) := by
  intro p hp
  rcases List.mem_append.1 hp with hp | hp
  · exact h p hp
  · rw [List.mem_singleton.1 hp]; exact ho
theorem flat_snoc (us : List (Value × List Int × Own)) (v : Value) (xs : List Int) (A : Own) : flat (us ++ [(v, xs, A)]) = flat us ++ A := by simp [flat]
theorem K.pubF {e w : World} {L : Own} {t : TypeId} : ∀ (us : List (Value × List Int × Own)) {G : View}, OSS t us → K e w G (flat us ++ L) → ∃ G', VLe G G' ∧ (∀ p ∈ us, IntS G' p.1 p.2.1) ∧ K e w G' L
  | [], G, _, hK => ⟨G, VLe.refl _, fun p hp => absurd hp (by simp), hK⟩
  | (v, xs, A) :: us, G, h, hK => by
    have hK' : K e w G (A ++ (flat us ++ L)) := by simpa [flat, List.append_assoc] using hK
    obtain ⟨G1, hG1, hv, hK1⟩ := hK'.pubO (h _ (List.mem_cons_self ..))
    obtain ⟨G2, hG2, hus, hK2⟩ := K.pubF us (fun p hp => h p (List.mem_cons_of_mem _ hp)) hK1
    refine ⟨G2, hG1.trans hG2, fun p hp => ?_, hK2⟩
    rcases List.mem_cons.1 hp with rfl | hp
    · exact hv.mono hG2
    · exact hus p hp
section
variable {P : Program} {n : Nat} {Q : Po} {f : Sl} {w : World} {ops : Array Oper} {rest : List Oper}
  {dst : Option Nat} {ty : TypeId} {pos : String} {af : Array Edge} {e : World} {G : View} {L A : Own}
theorem osSet {T i m t sz by' : Nat} {x y : Operand} {v u z : Value} {cs : List Value} (hK : K e w G (A ++ L)) (ho : OS 1 t v m cs A) (him : i < m) (hi : Inf P T z sz by') (hs : Nat.beq sz 1 = true)
    (hp : ev n f x = .pointer (some (elA v i))) (hv : ev n f y = u) (h1 : one u = true)
    (h : ∀ A' w1, OS 1 t v m (cs.set i u) A' → K e w1 G (A' ++ L) → WL P n ops Q rest (updO f dst undef) w1) :
    WL P n ops Q (⟨dst, .store T x y, ty, pos, af, none⟩ :: rest) f w := by
  obtain ⟨hl, ⟨_, h0, _⟩ | ⟨b, cap, cur, rfl, rfl, g1, g2, g3, g4⟩⟩ := ho
  · omega
  · have hr : (Obj.cells cur t (0, 0)) = row cur.toList t := by simp [row]
    rw [hr] at hK
    refine soi hK hi hs 0 rfl (by rw [hp]; simp [elA]) hv h1 (by simp; omega) fun w1 hK1 => h [(b, .cells (cur.toList.set i u).toArray t (0, 0))] w1 ⟨by rw [List.length_set]; exact hl, .inr ⟨b, cap, (cur.toList.set i u).toArray, rfl, rfl, g1, g2, by simpa using g3, ?_⟩⟩ hK1
    rw [← g4]
    rw [List.take_set]
end
theorem K.vle {e w : World} {G G' : View} {L : Own} (hK : K e w G' L) (hG : VLe G G') : K e w G L :=
  ⟨hK.tape, hK.os, hK.out, fun b o h => hK.view b o (hG b o h), hK.own, (fun b o h => by
    cases hb : G b with
    | none => rfl
    | some o' => have := hG b o' hb; rw [hK.sep b o h] at this; cases this), hK.nodup⟩
theorem SS.list {α : Type} {E : View → Value → α → Prop} {G : View} {v : Value} {xs : List α} (h : SS E G v xs) :
    ∃ us : List Value, us.length = xs.length ∧ ∀ (i : Nat) (u : Value), us[i]? = some u → ∃ x, xs[i]? = some x ∧ cellV G (elA v i) = some u ∧ E G u x := by
  obtain ⟨us, h1, h2⟩ := choose_list (p := fun i u => ∃ x, xs[i]? = some x ∧ cellV G (elA v i) = some u ∧ E G u x) xs.length (fun i hi => by
    obtain ⟨u, hu, hx⟩ := h.at hi
    exact ⟨u, xs[i], List.getElem?_eq_getElem hi, hu, hx⟩)
  exact ⟨us, h1, h2⟩
noncomputable def dec (p : Prop) : Bool := @decide p (Classical.propDecidable p)
theorem dec_t {p : Prop} (h : p) : dec p = true := @decide_eq_true p (Classical.propDecidable p) h
theorem dec_f {p : Prop} (h : ¬ p) : dec p = false := @decide_eq_false p (Classical.propDecidable p) h
theorem of_dec {p : Prop} (h : dec p = true) : p := @of_decide_eq_true p (Classical.propDecidable p) h
theorem not_dec {p : Prop} (h : dec p = false) : ¬ p := @of_decide_eq_false p (Classical.propDecidable p) h
theorem dec_congr {p q : Prop} (h : p ↔ q) : dec p = dec q := by rw [propext h]
theorem dec_dec {p : Prop} [Decidable p] : dec p = decide p := by
  by_cases h : p
  · rw [dec_t h, decide_eq_true h]
  · rw [dec_f h, decide_eq_false h]
abbrev Pt (n : Int) : Prop := 0 ≤ n ∧ n ≤ 63
abbrev Tm (n : Int) : Prop := 0 ≤ n ∧ n ≤ 999
abbrev Ls := Int × Int × Int
/-! lists in ascending order of a key -/
section
variable {α : Type} {key : α → Int} {xs : List α}
theorem pw_snoc {i : Nat} (h : i < xs.length) (hp : (xs.take i).Pairwise (fun a b => key a < key b)) (hl : ∀ _ : 0 < i, key xs[i - 1] < key xs[i]) :
    (xs.take (i + 1)).Pairwise (fun a b => key a < key b) := by
  rw [List.take_succ_eq_append_getElem h, List.pairwise_append]
  refine ⟨hp, by simp, ?_⟩
  intro a ha b hb
  rw [List.mem_singleton.1 hb]
  obtain ⟨j, hj, rfl⟩ := List.getElem_of_mem ha
  rw [List.length_take] at hj
  have h0 : 0 < i := by omega
  have h1 := hl h0
  rw [List.getElem_take]
  rcases Nat.lt_or_ge j (i - 1) with hlt | hge
  · have := List.pairwise_iff_getElem.1 hp j (i - 1) (by rw [List.length_take]; omega) (by rw [List.length_take]; omega) hlt
    rw [List.getElem_take, List.getElem_take] at this
    omega
  · have : j = i - 1 := by omega
    subst this; exact h1
theorem pw_at {i : Nat} (hp : xs.Pairwise (fun a b => key a < key b)) (h : i < xs.length) (h0 : 0 < i) : key xs[i - 1] < key xs[i] :=
  List.pairwise_iff_getElem.1 hp (i - 1) i (by omega) h (by omega)
theorem all_snoc {p : α → Prop} {i : Nat} (h : i < xs.length) (hp : ∀ x ∈ xs.take i, p x) (hx : p xs[i]) : ∀ x ∈ xs.take (i + 1), p x := by
  intro x hm
  rw [List.take_succ_eq_append_getElem h] at hm
  rcases List.mem_append.1 hm with hm | hm
  · exact hp x hm
  · rw [List.mem_singleton.1 hm]; exact hx
end
def Asc (xs : List Int) : Prop := (∀ x ∈ xs, Pt x) ∧ xs.Pairwise (fun a b => id a < id b)
theorem Asc.nil : Asc [] := ⟨by simp, List.Pairwise.nil⟩
theorem Asc.pt {xs : List Int} (h : Asc xs) {i : Nat} (hi : i < xs.length) : Pt xs[i] := h.1 _ (List.getElem_mem hi)
theorem Asc.lt {xs : List Int} (h : Asc xs) {i : Nat} (hi : i < xs.length) (h0 : 0 < i) : xs[i - 1] < xs[i] := pw_at (key := id) h.2 hi h0
theorem Asc.snoc {xs : List Int} {i : Nat} (hi : i < xs.length) (h : Asc (xs.take i)) (hp : Pt xs[i]) (hl : ∀ _ : 0 < i, xs[i - 1] < xs[i]) : Asc (xs.take (i + 1)) :=
  ⟨all_snoc hi h.1 hp, pw_snoc (key := id) hi h.2 hl⟩
theorem Asc.filter {xs : List Int} (h : Asc xs) (p : Int → Bool) : Asc (xs.filter p) := ⟨fun x hx => h.1 x ((List.mem_filter.1 hx).1), h.2.filter p⟩
theorem Asc.len {xs : List Int} (h : Asc xs) : xs.length ≤ 64 := by
  have key : ∀ n, (hn : n < xs.length) → (n : Int) ≤ xs[n] := by
    intro n
    induction n with
    | zero => intro hn; exact (h.pt hn).1
    | succ n ih =>
      intro hn
      have := ih (by omega)
      have h2 := h.lt hn (Nat.succ_pos n)
      simp only [Nat.add_sub_cancel] at h2
      omega
  rcases Nat.lt_or_ge 64 xs.length with hlt | hge
  · have h1 := key 64 hlt
    have h2 := (h.pt hlt).2
    omega
  · exact hge
def LsOk (ls : List Ls) : Prop := (1 ≤ ls.length ∧ ls.length ≤ 12) ∧ (∀ x ∈ ls, Pt x.1 ∧ Pt x.2.1 ∧ Tm x.2.2) ∧ ls.Pairwise (fun a b => (fun x : Ls => x.1) a < (fun x : Ls => x.1) b)
theorem LsOk.at {ls : List Ls} (h : LsOk ls) {i : Nat} (hi : i < ls.length) : Pt ls[i].1 ∧ Pt ls[i].2.1 ∧ Tm ls[i].2.2 := h.2.1 _ (List.getElem_mem hi)
theorem LsOk.lt {ls : List Ls} (h : LsOk ls) {i : Nat} (hi : i < ls.length) (h0 : 0 < i) : ls[i - 1].1 < ls[i].1 := pw_at (key := fun x : Ls => x.1) h.2.2 hi h0
def LsTo (ls : List Ls) (i : Nat) : Prop := (∀ x ∈ ls.take i, Pt x.1 ∧ Pt x.2.1 ∧ Tm x.2.2) ∧ (ls.take i).Pairwise (fun a b => (fun x : Ls => x.1) a < (fun x : Ls => x.1) b)
theorem LsTo.zero {ls : List Ls} : LsTo ls 0 := ⟨by simp, by simp⟩
theorem LsTo.snoc {ls : List Ls} {i : Nat} (hi : i < ls.length) (h : LsTo ls i) (hx : Pt ls[i].1 ∧ Pt ls[i].2.1 ∧ Tm ls[i].2.2) (hl : ∀ _ : 0 < i, ls[i - 1].1 < ls[i].1) : LsTo ls (i + 1) :=
  ⟨all_snoc hi h.1 hx, pw_snoc (key := fun x : Ls => x.1) hi h.2 hl⟩
theorem LsTo.all {ls : List Ls} (h : LsTo ls ls.length) : (∀ x ∈ ls, Pt x.1 ∧ Pt x.2.1 ∧ Tm x.2.2) ∧ ls.Pairwise (fun a b => (fun x : Ls => x.1) a < (fun x : Ls => x.1) b) := by
  unfold LsTo at h; rw [List.take_length] at h; exact h
def lAt (ls : List Ls) (k : Int) : Nat := (ls.findIdx? (fun x => decide (k ≤ x.1))).getD 0
def lsAt (ls : List Ls) (k : Int) : Ls := ls.getD (lAt ls k) (0, 0, 0)
theorem lAt_eq {ls : List Ls} {k : Int} {i : Nat} (hi : i < ls.length) (ha : ∀ x ∈ ls.take i, x.1 < k) (hk : k ≤ ls[i].1) : lAt ls k = i := by
  unfold lAt
  have : ls.findIdx? (fun x => decide (k ≤ x.1)) = some i := by
    rw [List.findIdx?_eq_some_iff_getElem]
    refine ⟨hi, by simpa using hk, fun j hj => ?_⟩
    have := ha ls[j] (by rw [List.mem_take_iff_getElem]; exact ⟨j, by omega, rfl⟩)
    simp; omega
  rw [this]; rfl
theorem lAt_none {ls : List Ls} {k : Int} (ha : ∀ x ∈ ls, x.1 < k) : lAt ls k = 0 := by
  unfold lAt
  have : ls.findIdx? (fun x => decide (k ≤ x.1)) = none := by
    rw [List.findIdx?_eq_none_iff]
    intro x hx
    have := ha x hx
    simp; omega
  rw [this]; rfl
theorem lAt_cases (ls : List Ls) (k : Int) : (lAt ls k = 0 ∧ ∀ x ∈ ls, x.1 < k) ∨ (∃ h : lAt ls k < ls.length, k ≤ ls[lAt ls k].1 ∧ ∀ x ∈ ls.take (lAt ls k), x.1 < k) := by
  cases hf : ls.findIdx? (fun x => decide (k ≤ x.1)) with
  | none =>
    left
    rw [List.findIdx?_eq_none_iff] at hf
    have ha : ∀ x ∈ ls, x.1 < k := fun x hx => by have := hf x hx; simp at this; omega
    exact ⟨lAt_none ha, ha⟩
  | some i =>
    right
    have he : lAt ls k = i := by unfold lAt; rw [hf]; rfl
    rw [List.findIdx?_eq_some_iff_getElem] at hf
    obtain ⟨hi, h1, h2⟩ := hf
    subst he
    refine ⟨hi, by simpa using h1, fun x hx => ?_⟩
    obtain ⟨j, hj, rfl⟩ := List.mem_take_iff_getElem.1 hx
    have := h2 j (by omega)
    simp at this; omega
theorem lAt_lt {ls : List Ls} {k : Int} (h : 0 < ls.length) : lAt ls k < ls.length := by
  rcases lAt_cases ls k with ⟨h1, _⟩ | ⟨h1, _⟩ <;> omega
theorem lsAt_eq {ls : List Ls} {k : Int} (h : lAt ls k < ls.length) : ls[lAt ls k] = lsAt ls k := by
  unfold lsAt; rw [List.getD_eq_getElem?_getD, List.getElem?_eq_getElem h]; rfl
theorem lsAt_mem {ls : List Ls} {k : Int} (h : 0 < ls.length) : lsAt ls k ∈ ls := by
  rw [← lsAt_eq (lAt_lt h)]; exact List.getElem_mem _
def nx (ls : List Ls) (n : Int) : Int := if n ≤ (lsAt ls n).1 then (lsAt ls n).1 + 1 else 64
theorem nx_bd {ls : List Ls} (h : LsOk ls) {n : Int} (hn : n < 64) : n < nx ls n ∧ nx ls n ≤ 64 := by
  have := (h.2.1 _ (lsAt_mem (k := n) (by have := h.1.1; omega))).1
  unfold nx; split <;> omega
abbrev Sn := Int × List Int
def stp (ls : List Ls) (ks : List Int) (s : Sn) : Sn := (nx ls s.1, s.2 ++ ks.filter fun k => decide (s.1 ≤ k ∧ k < nx ls s.1))
def SnOk (s : Sn) : Prop := (0 ≤ s.1 ∧ s.1 ≤ 64) ∧ Asc s.2 ∧ ∀ x ∈ s.2, x < s.1
theorem SnOk.zero : SnOk (0, []) := ⟨by decide, Asc.nil, by simp⟩
theorem SnOk.stp {ls : List Ls} {ks : List Int} {s : Sn} (h : SnOk s) (hl : LsOk ls) (hk : Asc ks) (hn : s.1 < 64) : SnOk (stp ls ks s) := by
  have hb := nx_bd hl hn
  have h0 := h.1.1
  refine ⟨⟨by show 0 ≤ nx ls s.1; omega, hb.2⟩, ⟨?_, ?_⟩, ?_⟩
  · intro x hx
    rcases List.mem_append.1 hx with hx | hx
    · exact h.2.1.1 x hx
    · exact hk.1 x ((List.mem_filter.1 hx).1)
  · show (s.2 ++ _).Pairwise _
    rw [List.pairwise_append]
    refine ⟨h.2.1.2, hk.2.filter _, fun a ha b hb => ?_⟩
    have h1 := h.2.2 a ha
    have h2 := (List.mem_filter.1 hb).2
    simp at h2 ⊢; omega
  · intro x hx
    show x < nx ls s.1
    rcases List.mem_append.1 hx with hx | hx
    · have := h.2.2 x hx; omega
    · have := (List.mem_filter.1 hx).2
      simp at this; omega
def itr (ls : List Ls) (ks : List Int) : Nat → Sn
  | 0 => (0, [])
  | n + 1 => stp ls ks (itr ls ks n)
def Whole (ls : List Ls) (ks : List Int) (n : Nat) : Prop := (itr ls ks n).1 = 64 ∧ ∀ j, j < n → (itr ls ks j).1 < 64
theorem Whole.uniq {ls : List Ls} {ks : List Int} {n m : Nat} (h : Whole ls ks n) (h' : Whole ls ks m) : n = m := by
  rcases Nat.lt_trichotomy n m with hl | hl | hl
  · have := h'.2 n hl; have := h.1; omega
  · exact hl
  · have := h.2 m hl; have := h'.1; omega
theorem filter_split {ks : List Int} (h : ks.Pairwise (fun a b => id a < id b)) {a b : Int} (hab : a ≤ b) :
    ks.filter (fun k => decide (k < a)) ++ ks.filter (fun k => decide (a ≤ k ∧ k < b)) = ks.filter (fun k => decide (k < b)) := by
  induction ks with
  | nil => rfl
  | cons x l ih =>
    rw [List.pairwise_cons] at h
    have ih := ih h.2
    by_cases hx : x < a
    · rw [List.filter_cons_of_pos (by simpa using hx), List.filter_cons_of_neg (by simp; omega), List.filter_cons_of_pos (by simp; omega), List.cons_append, ih]
    · have h1 : l.filter (fun k => decide (k < a)) = [] := by
        rw [List.filter_eq_nil_iff]
        intro y hy
        have := h.1 y hy
        simp at this ⊢; omega
      rw [List.filter_cons_of_neg (by simpa using hx), h1, List.nil_append]
      apply List.filter_congr
      intro y hy
      have : a ≤ y := by
        rcases List.mem_cons.1 hy with rfl | hy
        · omega
        · have := h.1 y hy
          simp at this; omega
      simp [this]
theorem itr_ok {ls : List Ls} {ks : List Int} (hl : LsOk ls) (hk : Asc ks) : ∀ n, (∀ j, j < n → (itr ls ks j).1 < 64) →
    SnOk (itr ls ks n) ∧ (itr ls ks n).2 = ks.filter (fun k => decide (k < (itr ls ks n).1)) ∧ (n : Int) ≤ (itr ls ks n).1 ∧
    (n ≤ ls.countP (fun x => decide (x.1 < (itr ls ks n).1)) + if (itr ls ks n).1 = 64 then 1 else 0)
  | 0, _ => by
    refine ⟨SnOk.zero, ?_, by simp [itr], by simp⟩
    show [] = _
    rw [eq_comm, List.filter_eq_nil_iff]
    intro x hx
    have h0 : 0 ≤ x := (hk.1 x hx).1
    show ¬ decide (x < 0) = true
    rw [decide_eq_true_eq]; omega
  | n + 1, h => by
    obtain ⟨h1, h2, h3, h4⟩ := itr_ok hl hk n (fun j hj => h j (by omega))
    have hn := h n (by omega)
    have hb := nx_bd hl hn
    refine ⟨h1.stp hl hk hn, ?_, ?_, ?_⟩
    · show (itr ls ks n).2 ++ _ = _
      rw [h2]
      exact filter_split hk.2 (by omega)
    · show ((n + 1 : Nat) : Int) ≤ nx ls (itr ls ks n).1
      omega
    · show n + 1 ≤ ls.countP (fun x => decide (x.1 < nx ls (itr ls ks n).1)) + if nx ls (itr ls ks n).1 = 64 then 1 else 0
      rw [if_neg (by omega)] at h4
      generalize (itr ls ks n).1 = m at *
      have hmono : ls.countP (fun x => decide (x.1 < m)) ≤ ls.countP (fun x => decide (x.1 < nx ls m)) := List.countP_mono_left (fun x _ hx => by simp at hx ⊢; omega)
      by_cases hc : m ≤ (lsAt ls m).1
      · have hlt : ls.countP (fun x => decide (x.1 < m)) < ls.countP (fun x => decide (x.1 < nx ls m)) := by
          have hmem := lsAt_mem (k := m) (show 0 < ls.length by have := hl.1.1; omega)
          have hnx : nx ls m = (lsAt ls m).1 + 1 := if_pos hc
          obtain ⟨s, t, hst⟩ := List.append_of_mem hmem
          generalize lsAt ls m = y at *
          rw [hst, List.countP_append, List.countP_append, List.countP_cons, List.countP_cons]
          have m1 : s.countP (fun x => decide (x.1 < m)) ≤ s.countP (fun x => decide (x.1 < nx ls m)) := List.countP_mono_left (fun x _ hx => by simp at hx ⊢; omega)
          have m2 : t.countP (fun x => decide (x.1 < m)) ≤ t.countP (fun x => decide (x.1 < nx ls m)) := List.countP_mono_left (fun x _ hx => by simp at hx ⊢; omega)
          rw [hst] at m1 m2
          rw [if_neg (by simp; omega), if_pos (by rw [← hst]; simp; omega)]
          omega
        omega
      · rw [show nx ls m = 64 from if_neg hc] at hmono ⊢
        rw [if_pos rfl]; omega
theorem Whole.told {ls : List Ls} {ks : List Int} {n : Nat} (hl : LsOk ls) (hk : Asc ks) (h : Whole ls ks n) : (itr ls ks n).2 = ks ∧ n ≤ ls.length + 1 ∧ 1 ≤ n ∧ n ≤ 64 := by
  obtain ⟨h1, h2, h3, h4⟩ := itr_ok hl hk n h.2
  rw [h.1] at h2 h3 h4
  refine ⟨?_, ?_, ?_, by omega⟩
  · rw [h2, List.filter_eq_self]
    intro x hx
    have := (hk.1 x hx).2
    simp; omega
  · have := List.countP_le_length (l := ls) (p := fun x => decide (x.1 < 64))
    rw [if_pos rfl] at h4; omega
  · rcases Nat.eq_zero_or_pos n with h0 | h0
    · subst h0; have := h.1; simp [itr] at this
    · exact h0
def Swapped (xs : List Int) (i : Nat) (ys : List Int) : Prop :=
  ys.length = xs.length ∧ ∀ k, k < xs.length → ys.getD k 0 = if k < i ∨ xs.length ≤ k + i then xs.getD (xs.length - 1 - k) 0 else xs.getD k 0
theorem Swapped.zero (xs : List Int) : Swapped xs 0 xs := ⟨rfl, fun k hk => by rw [if_neg (by omega)]⟩
theorem getD_set {xs : List Int} {i k : Nat} {a : Int} (hi : i < xs.length) : (xs.set i a).getD k 0 = if k = i then a else xs.getD k 0 := by
  rw [List.getD_eq_getElem?_getD, List.getElem?_set]
  by_cases h : i = k
  · subst h; simp [hi]
  · rw [if_neg h, if_neg (fun h' => h h'.symm), ← List.getD_eq_getElem?_getD]
theorem Swapped.step {xs ys : List Int} {i j : Nat} (h : Swapped xs i ys) (hj : j = xs.length - 1 - i) (hij : i < j) :
    Swapped xs (i + 1) ((ys.set i (ys.getD j 0)).set j (ys.getD i 0)) := by
  obtain ⟨h1, h2⟩ := h
  refine ⟨by simp [h1], fun k hk => ?_⟩
  rw [getD_set (by simp; omega), getD_set (by omega)]
  have hi' := h2 i (by omega)
  have hj' := h2 j (by omega)
  rw [if_neg (by omega)] at hi' hj'
  by_cases e1 : k = j
  · subst e1
    rw [if_pos rfl, if_pos (by omega), hi']; congr 1; omega
  · rw [if_neg e1]
    by_cases e2 : k = i
    · subst e2
      rw [if_pos rfl, if_pos (by omega), hj']; congr 1
    · rw [if_neg e2, h2 k hk]
      by_cases e3 : k < i ∨ xs.length ≤ k + i
      · rw [if_pos e3, if_pos (by omega)]
      · rw [if_neg e3, if_neg (by omega)]
theorem Swapped.done {xs ys : List Int} {i : Nat} (h : Swapped xs i ys) (hi : xs.length ≤ 2 * i + 1) : ys = xs.reverse := by
  obtain ⟨h1, h2⟩ := h
  apply List.ext_getElem (by simp [h1])
  intro k hk hk'
  have h3 := h2 k (by omega)
  rw [List.getElem_reverse]
  have e1 : ys.getD k 0 = ys[k] := by simp [List.getD, hk]
  have e2 : xs.getD (xs.length - 1 - k) 0 = xs[xs.length - 1 - k]'(by omega) := by simp [List.getD, show xs.length - 1 - k < xs.length by omega]
  rw [← e1, h3, ← e2]
  split
  · rfl
  · congr 1; omega
noncomputable def scanF (ls : List Ls) (ks : List Int) (s : Sn) : Sn × Bool :=
  if dec (LsOk ls ∧ Asc ks ∧ SnOk s) = true then (if s.1 = 64 then (s, false) else (stp ls ks s, true)) else ((0, []), false)
def AllF (ls : List Ls) (ks zs : List Int) (m : Int) : Prop :=
  (LsOk ls ∧ Asc ks ∧ zs = ks ∧ ∃ N, Whole ls ks N ∧ m = (N : Int)) ∨ (¬ (LsOk ls ∧ Asc ks) ∧ zs = [] ∧ m = -1)
theorem AllF.uniq {ls : List Ls} {ks zs zs' : List Int} {m m' : Int} (h : AllF ls ks zs m) (h' : AllF ls ks zs' m') : zs = zs' ∧ m = m' := by
  rcases h with ⟨h1, h2, rfl, N, h3, rfl⟩ | ⟨h1, rfl, rfl⟩ <;> rcases h' with ⟨g1, g2, rfl, M, g3, rfl⟩ | ⟨g1, rfl, rfl⟩
  · exact ⟨rfl, by rw [h3.uniq g3]⟩
  · exact absurd ⟨h1, h2⟩ g1
  · exact absurd ⟨g1, g2⟩ h1
  · exact ⟨rfl, rfl⟩
theorem Asc.of {us : List Int} (h0 : ∀ x ∈ us.dropLast, 0 ≤ x) (hl : ∀ h : 0 < us.length, Pt (us[us.length - 1]'(by omega))) (hp : us.Pairwise (fun a b => id a < id b)) : Asc us := by
  refine ⟨fun x hx => ?_, hp⟩
  obtain ⟨j, hj, rfl⟩ := List.getElem_of_mem hx
  have h1 := hl (by omega)
  rcases Nat.lt_or_ge j (us.length - 1) with hlt | hge
  · have h2 := List.pairwise_iff_getElem.1 hp j (us.length - 1) hj (by omega) hlt
    simp only [id] at h2
    have h3 : us[j] ∈ us.dropLast := by
      rw [List.mem_iff_getElem]
      exact ⟨j, by simpa using hlt, by simp⟩
    have := h0 _ h3
    exact ⟨this, by omega⟩
  · have : j = us.length - 1 := by omega
    subst this; exact h1
def Mv (ks ms : List Int) (i : Nat) (x : Sn) : Prop := SnOk x ∧ (i : Int) ≤ x.1 ∧ (∀ k ∈ x.2, k ∈ ks ∨ k ∈ ms) ∧ ∀ k, k < x.1 → k ∈ ks → k ∈ ms → k ∈ x.2
theorem Mv.zero {ks ms : List Int} (hk : Asc ks) : Mv ks ms 0 (0, []) := ⟨SnOk.zero, by simp, by simp, fun k h hk' => by have h1 := (hk.1 k hk').1; simp only at h; omega⟩
theorem Mv.step {ks ms qs : List Int} {i : Nat} {x : Sn} {ls : List Ls} (h : Mv ks ms i x) (hl : LsOk ls) (hq : Asc qs) (hn : x.1 < 64) (hm : qs = ks ∨ qs = ms) : Mv ks ms (i + 1) (stp ls qs x) := by
  have hb := nx_bd hl hn
  refine ⟨h.1.stp hl hq hn, ?_, ?_, ?_⟩
  · have := h.2.1
    show ((i + 1 : Nat) : Int) ≤ nx ls x.1
    omega
  · intro k hk
    rcases List.mem_append.1 hk with hk | hk
    · exact h.2.2.1 k hk
    · have := (List.mem_filter.1 hk).1
      rcases hm with rfl | rfl
      · exact .inl this
      · exact .inr this
  · intro k hk h1 h2
    have hk' : k < nx ls x.1 := hk
    show k ∈ x.2 ++ _
    rw [List.mem_append]
    by_cases hc : k < x.1
    · exact .inl (h.2.2.2 k hc h1 h2)
    · right
      rw [List.mem_filter]
      refine ⟨?_, by simp; omega⟩
      rcases hm with rfl | rfl
      · exact h1
      · exact h2
end Go.Ro
