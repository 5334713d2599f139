/- An event of a valid world leaves it valid. Events of worlds and what they change, in plain lists. Stabilizing a ring, plain: what a node's whole round does. Rounds of a ring, plain: each step lowers a measure; where none changes anything the ring is ideal. A safe ring that a round does not change is the ideal ring of its nodes. Slices of the walk's own, or empty ones without room; worlds whose items are the walk's own. Conditions: those that each row states. -/
import Derived.Test.YtmgggljicpmndaaGreatDoorAo
import Derived.Test.YtmgggljicpmndaaGreatDoorRgT
import Derived.Test.YtmgggljicpmndaaGreatDoorRgU
import Derived.Test.YtmgggljicpmndaaGreatDoorWdN
namespace Go.Ro
theorem ins_pw {α : Type} (key : α → Int) (f : α) : ∀ (xs : List α), xs.Pairwise (fun a b => key a < key b) → (∀ x ∈ xs, key x ≠ key f) →
    (xs.takeWhile (fun x => decide (key x < key f)) ++ f :: xs.dropWhile (fun x => decide (key x < key f))).Pairwise (fun a b => key a < key b)
  | [], _, _ => by simp
  | a :: r, h, hn => by
    rw [List.pairwise_cons] at h
    by_cases ha : key a < key f
    · rw [List.takeWhile_cons_of_pos (by simpa using ha), List.dropWhile_cons_of_pos (by simpa using ha), List.cons_append, List.pairwise_cons]
      refine ⟨fun b hb => ?_, ins_pw key f r h.2 (fun x hx => hn x (List.mem_cons_of_mem _ hx))⟩
      rcases List.mem_append.1 hb with hb | hb
      · exact h.1 b (List.takeWhile_subset _ hb)
      · rcases List.mem_cons.1 hb with rfl | hb
        · exact ha
        · exact h.1 b (List.dropWhile_subset _ hb)
    · rw [List.takeWhile_cons_of_neg (by simpa using ha), List.dropWhile_cons_of_neg (by simpa using ha), List.nil_append, List.pairwise_cons, List.pairwise_cons]
      have h0 := hn a (List.mem_cons_self ..)
      refine ⟨fun b hb => ?_, h⟩
      rcases List.mem_cons.1 hb with rfl | hb
      · omega
      · have := h.1 b hb; omega
theorem mem_insl {α : Type} {p : α → Bool} {f x : α} {xs : List α} : x ∈ xs.takeWhile p ++ f :: xs.dropWhile p ↔ x = f ∨ x ∈ xs := by
  constructor
  · intro h
    rcases List.mem_append.1 h with h | h
    · exact .inr (List.takeWhile_subset _ h)
    · rcases List.mem_cons.1 h with h | h
      · exact .inl h
      · exact .inr (List.dropWhile_subset _ h)
  · rintro (h | h)
    · rw [h]; simp
    · rw [← List.takeWhile_append_dropWhile (p := p) (l := xs)] at h
      rcases List.mem_append.1 h with h | h
      · exact List.mem_append_left _ h
      · exact List.mem_append_right _ (List.mem_cons_of_mem _ h)
theorem len_insl {α : Type} {p : α → Bool} {f : α} {xs : List α} : (xs.takeWhile p ++ f :: xs.dropWhile p).length = xs.length + 1 := by
  have := congrArg List.length (List.takeWhile_append_dropWhile (p := p) (l := xs))
  simp only [List.length_append, List.length_cons] at this ⊢; omega
theorem LsOk.set {ls : List Ls} (h : LsOk ls) {i : Nat} (hi : i < ls.length) {y : Ls} (h1 : y.1 = ls[i].1) (h2 : Pt y.2.1) (h3 : Tm y.2.2) : LsOk (ls.set i y) := by
  refine ⟨by rw [List.length_set]; exact h.1, fun x hx => ?_, ?_⟩
  · rcases List.mem_or_eq_of_mem_set hx with hx | rfl
    · exact h.2.1 x hx
    · exact ⟨h1 ▸ (h.at hi).1, h2, h3⟩
  · have hm : (ls.set i y).map (fun x => x.1) = ls.map (fun x => x.1) := by
      rw [List.map_set, h1]
      have : (ls.map (fun x : Ls => x.1))[i]'(by simpa using hi) = ls[i].1 := by simp
      rw [← this]; exact List.set_getElem_self _
    have h4 := List.pairwise_map.2 h.2.2
    rw [← hm] at h4
    exact List.pairwise_map.1 h4
theorem handL_ok {ls x : List Ls} {fr at' to un : Int} (h : LsOk ls) (h1 : Pt at') (h2 : Pt to) (h3 : Tm un) (hx : handL ls fr at' to un = some x) : LsOk x := by
  have hlt := lAt_lt (ls := ls) (k := at') (by have := h.1; omega)
  have hat := lsAt_eq hlt
  unfold handL at hx
  split at hx
  · cases hx
  · split at hx
    · rename_i h4
      obtain rfl := Option.some.inj hx
      exact h.set hlt (by rw [hat]; exact h4.symm) h2 h3
    · rename_i h4
      split at hx
      · cases hx
      · rename_i h5
        obtain rfl := Option.some.inj hx
        refine ⟨?_, fun x hx => ?_, ins_pw (fun x : Ls => x.1) (at', to, un) ls h.2.2 fun x hx he => h4 ?_⟩
        · rw [len_insl]; have := h.1; omega
        · rcases mem_insl.1 hx with rfl | hx
          · exact ⟨h1, h2, h3⟩
          · exact h.2.1 x hx
        · -- an end at this very place is the one found
          obtain ⟨i, hi, rfl⟩ := List.getElem_of_mem hx
          have he' : ls[i].1 = at' := he
          have : lAt ls at' = i := by
            refine lAt_eq hi (fun x hx => ?_) (by omega)
            obtain ⟨j, hj, rfl⟩ := List.mem_take_iff_getElem.1 hx
            have := List.pairwise_iff_getElem.1 h.2.2 j i (by omega) hi (by omega)
            simp only at this; omega
          rw [← hat]
          simp only [this]; exact he'
theorem takeL_ok {ls x : List Ls} {key to now un : Int} (h : LsOk ls) (h2 : Pt to) (h3 : Tm un) (hx : takeL ls key to now un = some x) : LsOk x := by
  have hlt := lAt_lt (ls := ls) (k := key) (by have := h.1; omega)
  have hat := lsAt_eq hlt
  unfold takeL at hx
  split at hx
  · cases hx
  · obtain rfl := Option.some.inj hx
    exact h.set hlt (by rw [hat]) h2 h3
theorem renewL_ok {ls : List Ls} {ow now un : Int} (h : LsOk ls) (h3 : Tm un) : LsOk (renewL ls ow now un) := by
  unfold renewL
  refine ⟨by rw [List.length_map]; exact h.1, fun x hx => ?_, ?_⟩
  · obtain ⟨y, hy, rfl⟩ := List.mem_map.1 hx
    have := h.2.1 y hy
    unfold rn1; split
    · exact ⟨this.1, this.2.1, h3⟩
    · exact this
  · rw [List.pairwise_map]
    refine h.2.2.imp fun {a b} hab => ?_
    have ha : ∀ z : Ls, (rn1 ow now un z).1 = z.1 := fun z => by unfold rn1; split <;> rfl
    simp only [ha]; exact hab
theorem itf_true (b c : Int) : ∀ xs : List It, itf b c true xs = xs.filter (fun x => decide (x.1 ≠ b))
  | [] => rfl
  | x :: xs => by
    have ih := itf_true b c xs
    simp only [itf, Bool.true_eq_false, false_and, if_false, Bool.true_or, List.nil_append, ih, List.filter_cons, decide_eq_true_eq]
    split <;> simp
theorem mem_itf {b c : Int} {y : It} : ∀ {xs : List It} {p : Bool}, y ∈ itf b c p xs ↔ (p = false ∧ y = (b, c)) ∨ (y ∈ xs ∧ y.1 ≠ b)
  | [], p => by cases p <;> simp [itf]
  | x :: xs, p => by
    have ih := mem_itf (b := b) (c := c) (y := y) (xs := xs) (p := p || decide (b ≤ x.1))
    have e1 : y ∈ (if p = false ∧ b ≤ x.1 then [(b, c)] else ([] : List It)) ↔ (p = false ∧ b ≤ x.1) ∧ y = (b, c) := by
      by_cases h : p = false ∧ b ≤ x.1
      · rw [if_pos h, List.mem_singleton]; exact ⟨fun g => ⟨h, g⟩, fun g => g.2⟩
      · rw [if_neg h]; exact ⟨fun g => absurd g (by simp), fun g => absurd g.1 h⟩
    have e2 : y ∈ (if x.1 ≠ b then [x] else ([] : List It)) ↔ x.1 ≠ b ∧ y = x := by
      by_cases h : x.1 ≠ b
      · rw [if_pos h, List.mem_singleton]; exact ⟨fun g => ⟨h, g⟩, fun g => g.2⟩
      · rw [if_neg h]; exact ⟨fun g => absurd g (by simp), fun g => absurd g.1 h⟩
    have e3 : (p || decide (b ≤ x.1)) = false ↔ p = false ∧ ¬ b ≤ x.1 := by simp
    rw [itf, List.mem_append, List.mem_append, ih, e1, e2, e3, List.mem_cons]
    constructor
    · rintro (⟨⟨h1, _⟩, h2⟩ | ⟨h1, h2⟩ | ⟨⟨h1, _⟩, h2⟩ | ⟨h1, h2⟩)
      · exact .inl ⟨h1, h2⟩
      · exact .inr ⟨.inl h2, by rw [h2]; exact h1⟩
      · exact .inl ⟨h1, h2⟩
      · exact .inr ⟨.inr h1, h2⟩
    · rintro (⟨h1, h2⟩ | ⟨h1 | h1, h2⟩)
      · by_cases h3 : b ≤ x.1
        · exact .inl ⟨⟨h1, h3⟩, h2⟩
        · exact .inr (.inr (.inl ⟨⟨h1, h3⟩, h2⟩))
      · exact .inr (.inl ⟨by rw [← h1]; exact h2, h1⟩)
      · exact .inr (.inr (.inr ⟨h1, h2⟩))
theorem pw_itf {b c : Int} : ∀ {xs : List It} {p : Bool} {lo : Int}, xs.Pairwise (fun a b => a.1 < b.1) → (∀ x ∈ xs, lo < x.1) → (p = false → lo < b) → (∀ y ∈ itf b c p xs, lo < y.1) ∧ (itf b c p xs).Pairwise (fun a b => a.1 < b.1)
  | [], p, lo, _, _, hb => by
    cases p
    · exact ⟨fun y hy => by simp [itf] at hy; subst hy; exact hb rfl, by simp [itf]⟩
    · exact ⟨fun y hy => by simp [itf] at hy, by simp [itf]⟩
  | x :: xs, p, lo, h, hlo, hb => by
    rw [List.pairwise_cons] at h
    have hx := hlo x (List.mem_cons_self ..)
    refine ⟨fun y hy => ?_, ?_⟩
    · rcases mem_itf.1 hy with ⟨h1, rfl⟩ | ⟨h1, _⟩
      · exact hb h1
      · exact hlo y h1
    · rw [itf]
      by_cases hp : p = false ∧ b ≤ x.1
      · have ih := pw_itf (b := b) (c := c) (xs := xs) (p := p || decide (b ≤ x.1)) (lo := x.1) h.2 (fun y hy => h.1 y hy) (fun h => by rw [hp.1, decide_eq_true hp.2] at h; cases h)
        rw [if_pos hp]
        split
        · rename_i hne
          have : b < x.1 := by have := hp.2; omega
          refine List.pairwise_cons.2 ⟨fun y hy => ?_, List.pairwise_cons.2 ⟨ih.1, ih.2⟩⟩
          rcases List.mem_cons.1 hy with rfl | hy
          · exact this
          · have := ih.1 y hy; simp only; omega
        · rename_i hne
          have : x.1 = b := Decidable.not_not.1 hne
          refine List.pairwise_cons.2 ⟨fun y hy => ?_, ih.2⟩
          have := ih.1 y hy; simp only; omega
      · rw [if_neg hp, List.nil_append]
        by_cases hlt : x.1 < b
        · have ih := pw_itf (b := b) (c := c) (xs := xs) (p := p || decide (b ≤ x.1)) (lo := x.1) h.2 (fun y hy => h.1 y hy) (fun _ => hlt)
          rw [if_pos (by omega)]
          exact List.pairwise_cons.2 ⟨ih.1, ih.2⟩
        · have hpt : p = true := by
            cases p
            · exact absurd ⟨rfl, by omega⟩ hp
            · rfl
          have ih := pw_itf (b := b) (c := c) (xs := xs) (p := p || decide (b ≤ x.1)) (lo := x.1) h.2 (fun y hy => h.1 y hy) (fun h => by rw [hpt] at h; cases h)
          split
          · exact List.pairwise_cons.2 ⟨ih.1, ih.2⟩
          · exact ih.2
theorem rgO_safe {r : List Nd} (h : RgSafe r) {kd a b : Int} (h2 : (rgO r kd a b).2 = true) : RgSafe (rgO r kd a b).1 := by
  have key : ∀ (ok : Prop) (o : Option (List Nd)), (ok → ∀ x, o = some x → RgSafe x) → (tk r ok o).2 = true → RgSafe (tk r ok o).1 := by
    intro ok o ho ht
    by_cases hok : RgSafe r ∧ ok
    · cases o with
      | none => rw [tk_none hok] at ht; cases ht
      | some x => rw [tk_some hok]; exact ho hok.2 x rfl
    · rw [tk_no hok] at ht; cases ht
  unfold rgO at h2 ⊢
  split at h2
  · rename_i hk; rw [if_pos hk]; exact key _ _ (fun hp x hx => joinR_safe h hp.1 hx) h2
  · rename_i hk; rw [if_neg hk]; split at h2
    · rename_i hk; rw [if_pos hk]; exact key _ _ (fun _ x hx => failR_safe hx) h2
    · rename_i hk; rw [if_neg hk]; split at h2
      · rename_i hk; rw [if_pos hk]; exact key _ _ (fun _ x hx => dropR_safe h hx) h2
      · rename_i hk; rw [if_neg hk]; split at h2
        · rename_i hk; rw [if_pos hk]; exact key _ _ (fun _ x hx => adoptR_safe h hx) h2
        · rename_i hk; rw [if_neg hk]; split at h2
          · rename_i hk; rw [if_pos hk]; exact key _ _ (fun _ x hx => closerR_safe h hx) h2
          · rename_i hk; rw [if_neg hk]; split at h2
            · rename_i hk; rw [if_pos hk]; exact key _ _ (fun _ x hx => notifyR_safe h hx) h2
            · cases h2
theorem leO_ok {w : Wd} (h : WdA w) {kd a b c : Int} (h2 : (leO w kd a b c).2 = true) : LsOk (leO w kd a b c).1 := by
  have key : ∀ (ok : Prop) (o : Option (List Ls)), (ok → ∀ x, o = some x → LsOk x) → (tkL w.leases ok o).2 = true → LsOk (tkL w.leases ok o).1 := by
    intro ok o ho ht
    by_cases hok : LsOk w.leases ∧ ok
    · cases o with
      | none => rw [tkL_none hok rfl] at ht; cases ht
      | some x => rw [tkL_some hok rfl]; exact ho hok.2 x rfl
    · rw [tkL_no hok] at ht; cases ht
  unfold leO at h2 ⊢
  split at h2
  · cases h2
  · rename_i hk; rw [if_neg hk]; split at h2
    · rename_i hk; rw [if_pos hk]; split at h2
      · rename_i hk; rw [if_pos hk]; exact key _ _ (fun hp x hx => handL_ok h.ls hp.2.1 hp.2.2.1 hp.2.2.2 hx) h2
      · cases h2
    · rename_i hk; rw [if_neg hk]; split at h2
      · rename_i hk; rw [if_pos hk]; exact key _ _ (fun hp x hx => takeL_ok h.ls hp.2.1 hp.2.2.2 hx) h2
      · rename_i hk; rw [if_neg hk]; split at h2
        · rename_i hk; rw [if_pos hk]; split at h2
          · rename_i hk; rw [if_pos hk]; exact renewL_ok h.ls (utl_tm h.now)
          · cases h2
        · cases h2
theorem leW_ls {w : Wd} (h : WdA w) (kd a b c : Int) : LsOk (leW w kd a b c).leases := by
  unfold leW; split
  · rename_i h2; exact leO_ok h h2
  · exact h.ls
theorem itW_it {w : Wd} (h : WdA w) {kd a b c : Int} (hk : kd = 11 ∨ kd = 12) : ItOk (itW w kd a b c).items ∧ Asc (itW w kd a b c).since := by
  unfold itW; split
  · rename_i hc
    refine ⟨⟨fun x hx => ?_, fun k hk' => ?_, ?_⟩, ?_⟩
    · rcases mem_itf.1 hx with ⟨h1, rfl⟩ | ⟨h1, _⟩
      · exact hc.2.2.2 (by have := of_decide_eq_false h1; omega)
      · exact h.it.1 x h1
    · obtain ⟨x, hx, rfl⟩ := List.mem_map.1 hk'
      rcases mem_itf.1 hx with ⟨_, rfl⟩ | ⟨h1, _⟩
      · exact hc.1
      · exact h.it.2.1 _ (List.mem_map.2 ⟨x, h1, rfl⟩)
    · exact List.pairwise_map.2 (pw_itf (lo := -1) (List.pairwise_map.1 h.it.2.2) (fun x hx => by have := (h.it.2.1 _ (List.mem_map.2 ⟨x, hx, rfl⟩)).1; omega) (fun _ => by have := hc.1.1; omega)).2
    · simp only; split
      · exact h.si.filter _
      · exact h.si
  · exact ⟨h.it, h.si⟩
theorem doW_a {w : Wd} (h : WdA w) (kd a b c : Int) : WdA (doW w kd a b c) := by
  have hu : ∀ w' : Wd, w'.now = w.now → w'.leases = w.leases → w'.items = w.items → w'.scan = w.scan → w'.since = w.since → WdA w' := fun w' e1 e2 e3 e4 e5 => ⟨e1 ▸ h.now, e2 ▸ h.ls, e3 ▸ h.it, e4 ▸ h.sc, e5 ▸ h.si⟩
  unfold doW; split
  · refine ⟨?_, leW_ls h kd a b c, ?_, ?_, ?_⟩ <;> unfold leW <;> split
    all_goals first | exact h.now | exact h.it | exact h.sc | exact h.si
  · split
    · exact ⟨⟨by have := h.now.1; show 0 ≤ min (w.now + 1) 999; omega, by show min (w.now + 1) 999 ≤ 999; omega⟩, h.ls, h.it, h.sc, h.si⟩
    · split
      · rename_i hk
        have hi := itW_it h (a := a) (b := b) (c := c) hk
        refine ⟨?_, ?_, hi.1, ?_, hi.2⟩ <;> unfold itW <;> split
        all_goals first | exact h.now | exact h.ls | exact h.sc
      · split
        · exact ⟨h.now, h.ls, h.it, SnOk.zero, h.it.2⟩
        · split
          · unfold scW; split
            · rename_i hc; exact ⟨h.now, h.ls, h.it, h.sc.stp h.ls h.it.2 hc.1, h.si⟩
            · exact h
          · unfold rgW; split
            · exact hu _ rfl rfl rfl rfl rfl
            · exact h
theorem doW_ring {w : Wd} (h : RgSafe w.ring) (kd a b c : Int) : RgSafe (doW w kd a b c).ring := by
  unfold doW; split
  · unfold leW; split <;> exact h
  · split
    · exact h
    · split
      · unfold itW; split <;> exact h
      · split
        · exact h
        · split
          · unfold scW; split <;> exact h
          · unfold rgW; split
            · rename_i h2; exact rgO_safe h h2
            · exact h
theorem doW_si {w : Wd} (h : WdOk w) (kd a b c : Int) : SiOk (doW w kd a b c) := by
  have hs := h.2.2.2.2.2.2
  unfold doW; split
  · unfold leW; split <;> exact hs
  · split
    · exact hs
    · split
      · unfold itW; split
        · intro k hk
          simp only at hk ⊢
          have hk' : k ∈ w.since ∧ (kd = 12 → k ≠ b) := by
            split at hk
            · rw [List.mem_filter] at hk; exact ⟨hk.1, fun _ => by simpa using hk.2⟩
            · rename_i h12; exact ⟨hk, fun h => absurd h h12⟩
          obtain ⟨h1, h2⟩ := hs k hk'.1
          refine ⟨?_, h2⟩
          obtain ⟨x, hx, rfl⟩ := List.mem_map.1 h1
          by_cases hxb : x.1 = b
          · by_cases h12 : kd = 12
            · exact absurd hxb (hk'.2 h12)
            · exact List.mem_map.2 ⟨(b, c), mem_itf.2 (.inl ⟨decide_eq_false h12, rfl⟩), hxb.symm⟩
          · exact List.mem_map.2 ⟨x, mem_itf.2 (.inr ⟨hx, hxb⟩), rfl⟩
        · exact hs
      · split
        · exact fun k hk => ⟨hk, fun h0 => by have := (h.2.2.2.1.2.1 k hk).1; simp only at h0; omega⟩
        · split
          · unfold scW; split
            · intro k hk
              obtain ⟨h1, h2⟩ := hs k hk
              refine ⟨h1, fun hlt => ?_⟩
              simp only [stp] at hlt ⊢
              by_cases hk0 : k < w.scan.1
              · exact List.mem_append_left _ (h2 hk0)
              · exact List.mem_append_right _ (List.mem_filter.2 ⟨h1, decide_eq_true ⟨by omega, hlt⟩⟩)
            · exact hs
          · unfold rgW; split <;> exact hs
theorem doW_ok {w : Wd} (h : WdOk w) (kd a b c : Int) : WdOk (doW w kd a b c) :=
  have g := doW_a h.wda kd a b c
  ⟨g.now, doW_ring h.2.1 kd a b c, g.ls, g.it, g.sc, g.si, doW_si h kd a b c⟩
noncomputable def wdF (w : Wd) (kd a b c : Int) : Wd := if dec (WdOk w) = true then doW w kd a b c else wdZ
theorem doW_le {wd : Wd} {kd a b c : Int} (hk : kd = 7 ∨ kd = 8 ∨ kd = 9) : doW wd kd a b c = leW wd kd a b c := if_pos hk
def vOf (xs : List It) (k : Int) : Int := ((xs.find? (fun x => decide (x.1 = k))).map (·.2)).getD (-1)
def dr (r : List Nd) (id : Int) : List Nd := (dropR r id).getD r
def drN : Nat → List Nd → Int → List Nd
  | 0, r, _ => r
  | n + 1, r, id => drN n (dr r id) id
def ad1 (r : List Nd) (id : Int) : List Nd := (adoptR r id).getD r
def clo1 (r : List Nd) (id : Int) : List Nd :=
  if 0 ≤ (ndAt r (a0 (ndAt r id))).2.1 then (closerR r id (ndAt r (a0 (ndAt r id))).2.1).getD r else r
def not1 (r : List Nd) (id : Int) : List Nd := (notifyR r (a0 (ndAt r id)) id).getD r
def stabR (r : List Nd) (id : Int) : List Nd := not1 (clo1 (ad1 (drN 2 r id) id) id) id
def stR (r : List Nd) (id : Int) : Option (List Nd) := if id ∈ ids r then some (stabR r id) else none
def cd (a b : Int) : Nat := ((b - a - 1) % 64).toNat
def wN (S : List Int) (x : Nd) : Nat := (if a0 x ∈ S then cd x.1 (a0 x) else 100) + (if x.2.1 ∈ S then cd x.2.1 x.1 else 100)
def m1 (r : List Nd) : Nat := (r.map (wN (ids r))).sum
def bad1 (r : List Nd) (x : Nd) : Bool := decide (x.2.2 ≠ [a0 x, a0 (ndAt r (a0 x))])
def bad (r : List Nd) : Nat := r.countP (bad1 r)
def msr (r : List Nd) : Nat := m1 r * 11 + bad r
def rndR (r : List Nd) (ks : List Int) : List Nd := ks.foldl stabR r
def rnd (r : List Nd) : List Nd := rndR r (ids r)
def calR (r : List Nd) : List Nd := if msr (rnd r) < msr r then calR (rnd r) else r
termination_by msr r
open Go
def OSx (sz : Nat) (t : TypeId) (v : Value) (m : Nat) (cs : List Value) (A : Own) : Prop :=
  OS sz t v m cs A ∨ (m = 0 ∧ A = [] ∧ cs = [] ∧ ∃ b : Nat, v = .slice (some ⟨b, 0, none⟩) 0 0)
theorem ints_flat (xs : List Int) : ints xs = xs.flatMap fun n => [.int .i64 n] := by
  induction xs with
  | nil => rfl
  | cons x xs ih => rw [List.flatMap_cons, ← ih]; rfl
section
variable {sz m : Nat} {t : TypeId} {v : Value} {cs : List Value} {A : Own}
theorem OSx.slw (h : OSx sz t v m cs A) : SlW v m := by
  rcases h with h | ⟨rfl, _, _, b, rfl⟩
  · exact h.slw
  · exact ⟨_, _, rfl, Nat.le_refl _, Nat.zero_le _, .inr ⟨_, _, rfl⟩⟩
theorem OSx.one (h : OSx sz t v m cs A) : one v = true := h.slw.one
theorem OSx.pub {α : Type} {c : α → List Value} {xs : List α} {e w : World} {G : View} {L : Own} (hc : ∀ x, (c x).length = sz) (hK : K e w G (A ++ L)) (ho : OSx sz t v xs.length (xs.flatMap c) A) :
    ∃ G', VLe G G' ∧ SlR sz (EF c) G' v xs ∧ K e w G' L := by
  rcases ho with ho | ⟨h0, rfl, _, b, rfl⟩
  · exact K.pubE hc hK ho
  · obtain rfl := List.eq_nil_of_length_eq_zero h0
    exact ⟨G, VLe.refl _, SlR.lit0, hK⟩
end
section
variable {P : Program} {n : Nat} {Q : Po} {f : Sl} {w e : World} {G : View} {L A : Own} {ops : Array Oper} {rest : List Oper} {d : Nat} {pos : String} {af : Array Edge}
theorem apE1x {α : Type} {c : α → List Value} {T E' E2 ty' b2 by' sz : Nat} {z : Value} {v : Value} {x y : Operand} {xs : List α} {k : α} (hc : ∀ x, (c x).length = sz) (hone : (c k).all one = true) (hK : K e w G ((b2, row (c k) E2) :: (A ++ L))) (hT : P.underlying T = some (.slice E')) (hi : Inf P E' z sz by') (hz : z.cells.size = sz) (hby : Nat.ble by' 1000 = true)
    (hx : ev n f x = v) (ho : OSx sz E' v xs.length (xs.flatMap c) A) (hy : ev n f y = .slice (some ⟨b2, 0, none⟩) 1 1) (hmk : xs.length + 1 ≤ 1000000000)
    (h : ∀ v' A' w1, OS sz E' v' (xs ++ [k]).length ((xs ++ [k]).flatMap c) A' → K e w1 G (A' ++ L) → WL P n ops Q rest (upd f d v') w1) :
    WL P n ops Q (⟨some d, .call ⟨.builtin .append, #[x, y], #[T, T]⟩, ty', pos, af, none⟩ :: rest) f w := by
  rcases ho with ho | ⟨h0, rfl, _, b, rfl⟩
  · exact apE1 hc hone hK hT hi hz hby hx ho hy hmk h
  · obtain rfl := List.eq_nil_of_length_eq_zero h0
    have hb := hK.own b2 _ (List.mem_cons_self ..)
    obtain ⟨v', A', w1, hr, h2, h3⟩ := run_append0 (P := P) (ty' := ty') (bb := b) (news := c k) (k := 1) (b2 := some ⟨b2, 0, none⟩) (c2 := 1) hK hT hi hz (by rw [hc, Nat.one_mul]) (.inr ⟨_, _, rfl⟩) (fun j u hj => by simp only [elA, Nat.zero_add]; rw [row_cell hb]; exact hj) (by omega) (Nat.le_of_ble_eq_true hby)
    rcases h3 with ⟨h4, _⟩ | h3
    · cases h4
    · refine vl ?_ (h v' A' w1 (by simpa using h3) (K.drop1 (K.back1 h2)))
      unfold St execOp
      simp only [resolve, Sem.run_bind, Sem.run_pure, Result.andThen_ok, invoke, builtin, List.map_toArray, List.map_cons, List.map_nil, hx, hy, hr]
end
structure WdO (G : View) (lc : Ls → List Value) (tI tS : TypeId) (W : Wv) (w : Wd) (rs : List Rn) (AI AS : Own) : Prop where
  now : W.now = w.now
  ring : RngS G W.r rs
  rg : rgl rs = w.ring
  leases : SlR 3 (EF lc) G W.l w.leases
  items : OSx 2 tI W.i w.items.length (w.items.flatMap ic) AI
  next : W.next = w.scan.1
  told : IntS G W.t w.scan.2
  since : OSx 1 tS W.s w.since.length (w.since.flatMap fun n => [.int .i64 n]) AS
section
variable {G G' : View} {lc : Ls → List Value} {tI tS : TypeId} {W : Wv} {wd : Wd} {rs : List Rn} {AI AS L : Own} {e w : World}
theorem WdO.mono (h : WdO G lc tI tS W wd rs AI AS) (hG : VLe G G') : WdO G' lc tI tS W wd rs AI AS :=
  ⟨h.now, h.ring.mono hG, h.rg, EF.mono h.leases hG, h.items, h.next, h.told.mono hG, h.since⟩
theorem WdO.one (h : WdO G lc tI tS W wd rs AI AS) : (wc W).all Ro.one = true :=
  allc rfl (allc h.ring.sl.1.one (allc h.leases.1.one (allc h.items.one (allc rfl (allc h.told.1.one (allc h.since.one rfl))))))
theorem WdO.pub (h : WdO G lc tI tS W wd rs AI AS) (hK : K e w G (AI ++ (AS ++ L))) : ∃ G', VLe G G' ∧ WdS G' lc W wd rs ∧ K e w G' L := by
  obtain ⟨G1, g1, h1, hK⟩ := OSx.pub (c := ic) (fun _ => rfl) hK h.items
  obtain ⟨G2, g2, h2, hK⟩ := OSx.pub (c := fun n => [.int .i64 n]) (fun _ => rfl) hK h.since
  exact ⟨G2, g1.trans g2, ⟨h.now, h.ring.mono (g1.trans g2), h.rg, EF.mono h.leases (g1.trans g2), EF.mono h1 g2, h.next, h.told.mono (g1.trans g2), h2⟩, hK⟩
end
section
variable {P : Program} {n : Nat} {Q : Po} {f : Sl} {w : World} {ops : Array Oper} {S : World → Prop} {k : Nat} {l l' : List Bool}
theorem xe3 {i j m : Nat} {o u t : Oper} {l2 l3 : List Bool} (hr : Region.ready .any ops l.toArray = [i, j, m]) (hi : ops[i]? = some o) (hj : ops[j]? = some u) (hm : ops[m]? = some t) (hl : l.set i true = l') (hl2 : l.set j true = l2) (hl3 : l.set m true = l3)
    (h : WL P n ops (Xp P n ops S Q k l') [o] f w) (h2 : WL P n ops (Xp P n ops S Q k l2) [u] f w) (h3 : WL P n ops (Xp P n ops S Q k l3) [t] f w) : WX P n ops S Q (k + 1) l f w := by
  refine wpAnyH_all hr (by simp) ?_
  intro a ha
  rcases List.mem_cons.1 ha with rfl | ha
  · exact xop hi hl h
  rcases List.mem_cons.1 ha with rfl | ha
  · exact xop hj hl2 h2
  · obtain rfl := List.mem_singleton.1 ha
    exact xop hm hl3 h3
end
end Go.Ro
