/- A safe ring that a round does not change is the ideal ring of its nodes. Slices of the walk's own, or empty ones without room; worlds whose items are the walk's own. Conditions: those that each row states. -/
import Derived.Test.YtmgggljicpmndaaGreatClM
import Derived.Test.YtmgggljicpmndaaGreatWlM
namespace Go.Ro
theorem inj_next {n : Nat} {f : Nat → Nat} (hf : ∀ i, i < n → f i < n) (hj : ∀ i j, i < n → j < n → f i = f j → i = j) (hg : ∀ i, i < n → f i = 0 ∨ i < f i) :
    ∀ d i, i + d + 1 = n → f i = if i + 1 < n then i + 1 else 0 := by
  intro d
  induction d using Nat.strongRecOn with
  | ind d ih =>
    intro i hi
    have h1 := hf i (by omega)
    rcases hg i (by omega) with h2 | h2
    · split
      · next hl =>
        have h3 := ih 0 (by omega) (n - 1) (by omega)
        rw [if_neg (by omega)] at h3
        have := hj i (n - 1) (by omega) (by omega) (by rw [h2, h3])
        omega
      · exact h2
    · rw [if_pos (by omega)]
      rcases Nat.eq_or_lt_of_le (show i + 1 ≤ f i from h2) with h4 | h4
      · exact h4.symm
      · exfalso
        have h3 := ih (n - (f i - 1) - 1) (by omega) (f i - 1) (by omega)
        rw [if_pos (by omega)] at h3
        have := hj i (f i - 1) (by omega) (by omega) (by omega)
        omega
theorem setN_fix {r : List Nd} {id : Int} {n : Nd} (hid : id ∈ ids r) (h : n.1 = id) (he : setN r id n = r) : ndAt r id = n := by
  have := ndAt_setN hid h
  rw [he] at this; exact this
theorem prin_two {r : List Nd} (h : RgSafe r) (k : Int) : ∃ p ∈ ids r, p ≠ k ∧ ∀ x ∈ r, skn x p = false := by
  have hp := h.2.2
  have hs : (prin r).Sublist (ids r) := List.filter_sublist
  have hnd : (prin r).Pairwise (· < ·) := h.1.pw.sublist hs
  have hm : ∀ p ∈ prin r, p ∈ ids r ∧ ∀ x ∈ r, skn x p = false := by
    intro p hp
    obtain ⟨h1, h2⟩ := List.mem_filter.1 hp
    refine ⟨h1, fun x hx => ?_⟩
    rw [Bool.not_eq_true', List.any_eq_false] at h2
    have := h2 x hx
    simpa using this
  match he : prin r, hp, hnd with
  | a :: b :: l, _, hnd =>
    have hab : a < b := List.rel_of_pairwise_cons hnd (List.mem_cons_self ..)
    have ha := hm a (by rw [he]; exact List.mem_cons_self ..)
    have hb := hm b (by rw [he]; exact List.mem_cons_of_mem _ (List.mem_cons_self ..))
    by_cases hk : a = k
    · exact ⟨b, hb.1, by omega, hb.2⟩
    · exact ⟨a, ha.1, hk, ha.2⟩
theorem ids3 {r : List Nd} (h : RgSafe r) : 3 ≤ (ids r).length := by
  have hs : (prin r).Sublist (ids r) := List.filter_sublist
  exact Nat.le_trans h.2.2 hs.length_le
theorem fix_node {r : List Nd} (h : RgSafe r) {k : Int} (hk : k ∈ ids r) (hf : stabR r k = r) :
    a0 (ndAt r k) ∈ ids r ∧ (ndAt r k).2.2 = [a0 (ndAt r k), a0 (ndAt r (a0 (ndAt r k)))] ∧ (ndAt r (a0 (ndAt r k))).2.1 = k := by
  rcases stab_cases h hk with h1 | ⟨h1, h2, h3, h4⟩
  · rw [hf] at h1; omega
  rw [hf] at h1
  rw [← h1] at h3 h4
  have hs : a0 (ndAt r k) ∈ ids r := by
    by_cases hs : a0 (ndAt r k) ∈ ids r
    · exact hs
    · rw [dropR_yes ⟨hk, hs⟩] at h2; cases h2
  have hb : (ndAt r k).2.2 = [a0 (ndAt r k), a0 (ndAt r (a0 (ndAt r k)))] := by
    have e : ad1 r k = foll r k (a0 (ndAt r k)) := by unfold ad1; rw [adoptR_yes ⟨hk, hs⟩]; rfl
    have := setN_fix (n := (k, (ndAt r k).2.1, [a0 (ndAt r k), a0 (ndAt r (a0 (ndAt r k)))])) hk rfl (by rw [e] at h1; exact h1.symm)
    exact congrArg (·.2.2) this
  refine ⟨hs, hb, ?_⟩
  obtain ⟨p, hp, hpk, hsk⟩ := prin_two h k
  have hlen := dr_len h hk
  have hks : k ≠ a0 (ndAt r k) := by
    intro he
    have := hsk _ (ndAt_mem hk)
    rw [skn2 hlen, ndAt_id hk, ← he] at this
    unfold btw at this
    rw [if_neg (by omega)] at this
    have h5 : decide (k < p ∨ p < k) = false := by
      cases hd : decide (k < p ∨ p < k) with
      | false => rfl
      | true => rw [hd] at this; cases this
    have := of_decide_eq_false h5
    omega
  have hn : ¬ ((ndAt r (a0 (ndAt r k))).2.1 = -1 ∨ (ndAt r (a0 (ndAt r k))).2.1 ∉ ids r ∨ btw (ndAt r (a0 (ndAt r k))).2.1 k (a0 (ndAt r k)) = true) := by
    intro hc
    rw [notifyR_yes ⟨hs, hks, hk, hc⟩] at h4; cases h4
  generalize hq : (ndAt r (a0 (ndAt r k))).2.1 = q at h3 hn
  have hq1 : q ∈ ids r := Classical.byContradiction fun g => hn (.inr (.inl g))
  have hq2 := h.1.ptId hq1
  have hc := h3 (by unfold Pt at hq2; omega)
  have hc2 : ¬ btw k q (a0 (ndAt r k)) = true := by
    intro g
    rw [closerR_yes ⟨hk, hq1, g⟩] at hc; cases hc
  have hc3 : ¬ btw q k (a0 (ndAt r k)) = true := fun g => hn (.inr (.inr g))
  unfold btw at hc2 hc3
  generalize a0 (ndAt r k) = s at hks hc2 hc3
  split at hc2 <;> split at hc3 <;> simp only [decide_eq_true_eq] at hc2 hc3 <;> omega
theorem fx_ix {r : List Nd} (h : RgOk r) {i : Nat} (hi : i < r.length) : fx r ((ids r)[i]'(by rw [ids_len]; exact hi)) = i := by
  have hm : (ids r)[i]'(by rw [ids_len]; exact hi) = r[i].1 := by
    have : (ids r)[i]? = some r[i].1 := by unfold ids; rw [List.getElem?_map, List.getElem?_eq_getElem hi]; rfl
    exact Option.some.inj ((List.getElem?_eq_getElem _).symm.trans this)
  refine fx_eq hi (fun _ hx => ?_) hm.symm
  obtain ⟨j, hj, rfl⟩ := List.mem_take_iff_getElem.1 hx
  have := List.pairwise_iff_getElem.1 h.2.2 j i (by omega) hi (by omega)
  rw [hm]; simp only at this; omega
theorem ndAt_ix {r : List Nd} (h : RgOk r) {i : Nat} (hi : i < r.length) : ndAt r ((ids r)[i]'(by rw [ids_len]; exact hi)) = r[i] := by
  unfold ndAt
  rw [fx_ix h hi, List.getD_eq_getElem?_getD, List.getElem?_eq_getElem hi]; rfl
theorem ids_asc {r : List Nd} (h : RgOk r) : Asc (ids r) := ⟨fun _ hx => h.ptId hx, h.pw⟩
theorem next_all {n m : Nat} {T : Nat → Nat} (h3 : 3 ≤ n) (hm : m < n) (hT1 : ∀ {i}, i < n → T i < n) (hinj : ∀ i j, i < n → j < n → T i = T j → i = j)
    (hix : ∀ {i}, i < n → ¬ (if i < T i then i < m ∧ m < T i else i < m ∨ m < T i)) {i : Nat} (hi : i < n) : T i = (i + 1) % n := by
  have rt : ∀ i, i < n → (m + i) % n = if m + i < n then m + i else m + i - n := by
    intro i hi
    split
    · next g => exact Nat.mod_eq_of_lt g
    · next g => rw [Nat.mod_eq_sub_mod (by omega), Nat.mod_eq_of_lt (by omega)]
  have bk : ∀ j, j < n → (j + n - m) % n = if m ≤ j then j - m else j + n - m := by
    intro j hj
    split
    · next g => rw [Nat.mod_eq_sub_mod (by omega), Nat.mod_eq_of_lt (by omega)]; omega
    · next g => exact Nat.mod_eq_of_lt (by omega)
  have hfl : ∀ i, i < n → (m + i) % n < n := fun i _ => Nat.mod_lt _ (by omega)
  have hnx := inj_next (n := n) (f := fun i => (T ((m + i) % n) + n - m) % n) (fun i hi => Nat.mod_lt _ (by omega))
    (by
      intro i j hi hj he
      have a1 := hT1 (hfl i hi)
      have a2 := hT1 (hfl j hj)
      rw [bk _ a1, bk _ a2] at he
      have := hinj _ _ (hfl i hi) (hfl j hj) (by split at he <;> split at he <;> omega)
      rw [rt i hi, rt j hj] at this
      split at this <;> split at this <;> omega)
    (by
      intro i hi
      have a1 := hT1 (hfl i hi)
      have a2 := hix (hfl i hi)
      rw [bk _ a1]
      have a3 := rt i hi
      generalize (m + i) % n = q at a1 a2 a3 ⊢
      generalize T q = t at a1 a2 ⊢
      split at a2 <;> split at a3 <;> split <;> omega)
  have h1 := hnx (n - (i + n - m) % n - 1) ((i + n - m) % n) (by have := Nat.mod_lt (i + n - m) (show n > 0 by omega); omega)
  have e : (m + (i + n - m) % n) % n = i := by rw [Nat.add_mod_mod, show m + (i + n - m) = i + n by omega, Nat.add_mod_right, Nat.mod_eq_of_lt hi]
  rw [e] at h1
  have a1 := hT1 hi
  rw [bk _ a1, bk _ hi] at h1
  have e2 : (i + 1) % n = if i + 1 < n then i + 1 else 0 := by
    split
    · next g => exact Nat.mod_eq_of_lt g
    · next g => rw [show i + 1 = n by omega, Nat.mod_self]
  rw [e2]
  generalize T i = t at h1 a1 ⊢
  split at h1 <;> split at h1 <;> split at h1 <;> split <;> omega
theorem fix_ideal {r : List Nd} (h : RgSafe r) (hf : ∀ k ∈ ids r, stabR r k = r) : r = idl (ids r) := by
  have h3 := ids3 h
  have ha := ids_asc h.1
  generalize hxs : ids r = xs at h3 ha
  have hn : xs.length = r.length := by rw [← hxs, ids_len]
  have hmem : ∀ {i} (hi : i < xs.length), xs[i] ∈ ids r := fun hi => by rw [hxs]; exact List.getElem_mem hi
  -- where each node's successor stands
  have hT : ∀ i : Nat, ∃ j : Nat, ∀ hi : i < xs.length, ∃ hj : j < xs.length, xs[j] = a0 (ndAt r xs[i]) := by
    intro i
    by_cases hi : i < xs.length
    · have := (fix_node h (hmem hi) (hf _ (hmem hi))).1
      rw [hxs] at this
      obtain ⟨j, hj, he⟩ := List.getElem_of_mem this
      exact ⟨j, fun _ => ⟨hj, he⟩⟩
    · exact ⟨0, fun g => absurd g hi⟩
  let T : Nat → Nat := fun i => Classical.choose (hT i)
  have hT1 : ∀ {i}, i < xs.length → T i < xs.length := fun {i} hi => (Classical.choose_spec (hT i) hi).1
  have hT2 : ∀ {i} (hi : i < xs.length), xs[T i]'(hT1 hi) = a0 (ndAt r xs[i]) := fun {i} hi => (Classical.choose_spec (hT i) hi).2
  clear_value T
  have hB : ∀ {i} (hi : i < xs.length), (ndAt r (xs[T i]'(hT1 hi))).2.1 = xs[i] := fun {i} hi => by
    rw [hT2 hi]; exact (fix_node h (hmem hi) (hf _ (hmem hi))).2.2
  have hinj : ∀ i j, i < xs.length → j < xs.length → T i = T j → i = j := by
    intro i j hi hj he
    have e1 := hB hi
    have e2 := hB hj
    simp only [he] at e1
    have e3 : xs[i] = xs[j] := e1.symm.trans e2
    have g1 := ha.mono hi hj
    have g2 := ha.mono hj hi
    rcases Nat.lt_trichotomy i j with g | g | g
    · have := g1.2 g; omega
    · exact g
    · have := g2.2 g; omega
  obtain ⟨p, hp, _, hsk⟩ := prin_two h (-1)
  rw [hxs] at hp
  obtain ⟨m, hm, rfl⟩ := List.getElem_of_mem hp
  have hbt : ∀ {i} (hi : i < xs.length), btw xs[i] xs[m] (xs[T i]'(hT1 hi)) = false := by
    intro i hi
    have := hsk _ (ndAt_mem (hmem hi))
    rw [skn2 (dr_len h (hmem hi)), ndAt_id (hmem hi), ← hT2 hi] at this
    exact (Bool.or_eq_false_iff.1 this).1
  have hix : ∀ {i} (hi : i < xs.length), ¬ (if i < T i then i < m ∧ m < T i else i < m ∨ m < T i) := by
    intro i hi
    have := hbt hi
    unfold btw at this
    have g1 := ha.mono hi (hT1 hi)
    have g2 := ha.mono hi hm
    have g3 := ha.mono hm (hT1 hi)
    by_cases hc : i < T i
    · rw [if_pos (g1.2 hc)] at this
      have := of_decide_eq_false this
      rw [if_pos hc]
      exact fun g => this ⟨g2.2 g.1, g3.2 g.2⟩
    · rw [if_neg (fun g => hc (g1.1 g))] at this
      have := of_decide_eq_false this
      rw [if_neg hc]
      exact fun g => this (g.imp g2.2 g3.2)
  have hTn : ∀ {i}, i < xs.length → T i = (i + 1) % xs.length := fun {i} hi => next_all h3 hm (fun h => hT1 h) hinj (fun h => hix h) hi
  apply List.ext_getElem
  · simp [idl, hn]
  · intro i hi hi2
    have hi' : i < xs.length := by omega
    have e0 : r[i] = ndAt r (xs[i]'(by omega)) := by
      rw [← ndAt_ix h.1 hi]; congr 1; simp only [hxs]
    have e1 : (idl xs)[i] = idN xs i := by
      have : (idl xs)[i]? = some (idN xs i) := by unfold idl; rw [List.getElem?_map, List.getElem?_range (by omega)]; rfl
      exact Option.some.inj ((List.getElem?_eq_getElem hi2).symm.trans this)
    rw [e0, e1, idN_eq (by omega) (by omega)]
    have hfn := fix_node h (hmem hi') (hf _ (hmem hi'))
    have hpi : (i + xs.length - 1) % xs.length < xs.length := Nat.mod_lt _ (by omega)
    have hpT : T ((i + xs.length - 1) % xs.length) = i := by
      rw [hTn hpi, Nat.mod_add_mod, show i + xs.length - 1 + 1 = i + xs.length by omega, Nat.add_mod_right, Nat.mod_eq_of_lt hi']
    have hb := hB hpi
    simp only [hpT] at hb
    have hs := hT2 hi'
    have hs2 := hT2 (hT1 hi')
    simp only [hTn hi'] at hs hs2
    have hl : (i + 1) % xs.length < xs.length := Nat.mod_lt _ (by omega)
    simp only [hTn hl] at hs2
    refine Prod.ext (ndAt_id (hmem hi')) (Prod.ext ?_ ?_)
    · exact hb
    · rw [hfn.2.1]; rw [← hs, hs2]
theorem calR_ideal {r : List Nd} (h : RgSafe r) : calR r = idl (ids r) := by
  obtain ⟨h1, h2, h3⟩ := calR_fix h
  have : calR r = idl (ids (calR r)) := fix_ideal h1 (by
    rcases rnd_mu h1 with ⟨g, _⟩ | g
    · exact g
    · rw [h3] at g; omega)
  rw [h2] at this; exact this
open Go
def OSx (sz : Nat) (t : TypeId) (v : Value) (m : Nat) (cs : List Value) (A : Own) : Prop :=
  OS sz t v m cs A ∨ (m = 0 ∧ A = [] ∧ cs = [] ∧ ∃ b : Nat, v = .slice (some ⟨b, 0, none⟩) 0 0)
theorem ints_flat (xs : List Int) : ints xs = xs.flatMap fun n => [.int .i64 n] := by
  induction xs with
  | nil => rfl
  | cons x xs ih => rw [List.flatMap_cons, ← ih]; rfl
section
variable {sz m : Nat} {t : TypeId} {v : Value} {cs : List Value} {A : Own}
theorem OSx.slw (h : OSx sz t v m cs A) : SlW v m := by
  rcases h with h | ⟨rfl, _, _, b, rfl⟩
  · exact h.slw
  · exact ⟨_, _, rfl, Nat.le_refl _, Nat.zero_le _, .inr ⟨_, _, rfl⟩⟩
theorem OSx.one (h : OSx sz t v m cs A) : one v = true := h.slw.one
theorem OSx.pub {α : Type} {c : α → List Value} {xs : List α} {e w : World} {G : View} {L : Own} (hc : ∀ x, (c x).length = sz) (hK : K e w G (A ++ L)) (ho : OSx sz t v xs.length (xs.flatMap c) A) :
    ∃ G', VLe G G' ∧ SlR sz (EF c) G' v xs ∧ K e w G' L := by
  rcases ho with ho | ⟨h0, rfl, _, b, rfl⟩
  · exact K.pubE hc hK ho
  · obtain rfl := List.eq_nil_of_length_eq_zero h0
    exact ⟨G, VLe.refl _, SlR.lit0, hK⟩
end
section
variable {P : Program} {n : Nat} {Q : Po} {f : Sl} {w e : World} {G : View} {L A : Own} {ops : Array Oper} {rest : List Oper} {d : Nat} {pos : String} {af : Array Edge}
end
structure WdO (G : View) (lc : Ls → List Value) (tI tS : TypeId) (W : Wv) (w : Wd) (rs : List Rn) (AI AS : Own) : Prop where
  now : W.now = w.now
  ring : RngS G W.r rs
  rg : rgl rs = w.ring
  leases : SlR 3 (EF lc) G W.l w.leases
  items : OSx 2 tI W.i w.items.length (w.items.flatMap ic) AI
  next : W.next = w.scan.1
  told : IntS G W.t w.scan.2
  since : OSx 1 tS W.s w.since.length (w.since.flatMap fun n => [.int .i64 n]) AS
section
variable {G G' : View} {lc : Ls → List Value} {tI tS : TypeId} {W : Wv} {wd : Wd} {rs : List Rn} {AI AS L : Own} {e w : World}
theorem WdO.mono (h : WdO G lc tI tS W wd rs AI AS) (hG : VLe G G') : WdO G' lc tI tS W wd rs AI AS :=
  ⟨h.now, h.ring.mono hG, h.rg, EF.mono h.leases hG, h.items, h.next, h.told.mono hG, h.since⟩
theorem WdO.one (h : WdO G lc tI tS W wd rs AI AS) : (wc W).all Ro.one = true :=
  allc rfl (allc h.ring.sl.1.one (allc h.leases.1.one (allc h.items.one (allc rfl (allc h.told.1.one (allc h.since.one rfl))))))
theorem WdO.pub (h : WdO G lc tI tS W wd rs AI AS) (hK : K e w G (AI ++ (AS ++ L))) : ∃ G', VLe G G' ∧ WdS G' lc W wd rs ∧ K e w G' L := by
  obtain ⟨G1, g1, h1, hK⟩ := OSx.pub (c := ic) (fun _ => rfl) hK h.items
  obtain ⟨G2, g2, h2, hK⟩ := OSx.pub (c := fun n => [.int .i64 n]) (fun _ => rfl) hK h.since
  exact ⟨G2, g1.trans g2, ⟨h.now, h.ring.mono (g1.trans g2), h.rg, EF.mono h.leases (g1.trans g2), EF.mono h1 g2, h.next, h.told.mono (g1.trans g2), h2⟩, hK⟩
end
section
variable {P : Program} {n : Nat} {Q : Po} {f : Sl} {w : World} {ops : Array Oper} {S : World → Prop} {k : Nat} {l l' : List Bool}
end
end Go.Ro
