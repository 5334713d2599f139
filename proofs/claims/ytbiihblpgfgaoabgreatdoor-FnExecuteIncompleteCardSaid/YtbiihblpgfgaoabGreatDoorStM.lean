/- An event of a valid world leaves it valid. Events of worlds and what they change, in plain lists. Stabilizing a ring, plain: what a node's whole round does. Conditions: those that each row states. -/
import Derived.Test.YtbiihblpgfgaoabGreatDoorAo
import Derived.Test.YtbiihblpgfgaoabGreatDoorRgT
import Derived.Test.YtbiihblpgfgaoabGreatDoorWdN
namespace Go.Ro
theorem ins_pw {α : Type} (key : α → Int) (f : α) : ∀ (xs : List α), xs.Pairwise (fun a b => key a < key b) → (∀ x ∈ xs, key x ≠ key f) →
    (xs.takeWhile (fun x => decide (key x < key f)) ++ f :: xs.dropWhile (fun x => decide (key x < key f))).Pairwise (fun a b => key a < key b)
  | [], _, _ => by simp
  | a :: r, h, hn => by
    rw [List.pairwise_cons] at h
    by_cases ha : key a < key f
    · rw [List.takeWhile_cons_of_pos (by simpa using ha), List.dropWhile_cons_of_pos (by simpa using ha), List.cons_append, List.pairwise_cons]
      refine ⟨fun b hb => ?_, ins_pw key f r h.2 (fun x hx => hn x (List.mem_cons_of_mem _ hx))⟩
      rcases List.mem_append.1 hb with hb | hb
      · exact h.1 b (List.takeWhile_subset _ hb)
      · rcases List.mem_cons.1 hb with rfl | hb
        · exact ha
        · exact h.1 b (List.dropWhile_subset _ hb)
    · rw [List.takeWhile_cons_of_neg (by simpa using ha), List.dropWhile_cons_of_neg (by simpa using ha), List.nil_append, List.pairwise_cons, List.pairwise_cons]
      have h0 := hn a (List.mem_cons_self ..)
      refine ⟨fun b hb => ?_, h⟩
      rcases List.mem_cons.1 hb with rfl | hb
      · omega
      · have := h.1 b hb; omega
theorem mem_insl {α : Type} {p : α → Bool} {f x : α} {xs : List α} : x ∈ xs.takeWhile p ++ f :: xs.dropWhile p ↔ x = f ∨ x ∈ xs := by
  constructor
  · intro h
    rcases List.mem_append.1 h with h | h
    · exact .inr (List.takeWhile_subset _ h)
    · rcases List.mem_cons.1 h with h | h
      · exact .inl h
      · exact .inr (List.dropWhile_subset _ h)
  · rintro (h | h)
    · rw [h]; simp
    · rw [← List.takeWhile_append_dropWhile (p := p) (l := xs)] at h
      rcases List.mem_append.1 h with h | h
      · exact List.mem_append_left _ h
      · exact List.mem_append_right _ (List.mem_cons_of_mem _ h)
theorem len_insl {α : Type} {p : α → Bool} {f : α} {xs : List α} : (xs.takeWhile p ++ f :: xs.dropWhile p).length = xs.length + 1 := by
  have := congrArg List.length (List.takeWhile_append_dropWhile (p := p) (l := xs))
  simp only [List.length_append, List.length_cons] at this ⊢; omega
theorem LsOk.set {ls : List Ls} (h : LsOk ls) {i : Nat} (hi : i < ls.length) {y : Ls} (h1 : y.1 = ls[i].1) (h2 : Pt y.2.1) (h3 : Tm y.2.2) : LsOk (ls.set i y) := by
  refine ⟨by rw [List.length_set]; exact h.1, fun x hx => ?_, ?_⟩
  · rcases List.mem_or_eq_of_mem_set hx with hx | rfl
    · exact h.2.1 x hx
    · exact ⟨h1 ▸ (h.at hi).1, h2, h3⟩
  · have hm : (ls.set i y).map (fun x => x.1) = ls.map (fun x => x.1) := by
      rw [List.map_set, h1]
      have : (ls.map (fun x : Ls => x.1))[i]'(by simpa using hi) = ls[i].1 := by simp
      rw [← this]; exact List.set_getElem_self _
    have h4 := List.pairwise_map.2 h.2.2
    rw [← hm] at h4
    exact List.pairwise_map.1 h4
theorem handL_ok {ls x : List Ls} {fr at' to un : Int} (h : LsOk ls) (h1 : Pt at') (h2 : Pt to) (h3 : Tm un) (hx : handL ls fr at' to un = some x) : LsOk x := by
  have hlt := lAt_lt (ls := ls) (k := at') (by have := h.1; omega)
  have hat := lsAt_eq hlt
  unfold handL at hx
  split at hx
  · cases hx
  · split at hx
    · rename_i h4
      obtain rfl := Option.some.inj hx
      exact h.set hlt (by rw [hat]; exact h4.symm) h2 h3
    · rename_i h4
      split at hx
      · cases hx
      · rename_i h5
        obtain rfl := Option.some.inj hx
        refine ⟨?_, fun x hx => ?_, ins_pw (fun x : Ls => x.1) (at', to, un) ls h.2.2 fun x hx he => h4 ?_⟩
        · rw [len_insl]; have := h.1; omega
        · rcases mem_insl.1 hx with rfl | hx
          · exact ⟨h1, h2, h3⟩
          · exact h.2.1 x hx
        · -- an end at this very place is the one found
          obtain ⟨i, hi, rfl⟩ := List.getElem_of_mem hx
          have he' : ls[i].1 = at' := he
          have : lAt ls at' = i := by
            refine lAt_eq hi (fun x hx => ?_) (by omega)
            obtain ⟨j, hj, rfl⟩ := List.mem_take_iff_getElem.1 hx
            have := List.pairwise_iff_getElem.1 h.2.2 j i (by omega) hi (by omega)
            simp only at this; omega
          rw [← hat]
          simp only [this]; exact he'
theorem takeL_ok {ls x : List Ls} {key to now un : Int} (h : LsOk ls) (h2 : Pt to) (h3 : Tm un) (hx : takeL ls key to now un = some x) : LsOk x := by
  have hlt := lAt_lt (ls := ls) (k := key) (by have := h.1; omega)
  have hat := lsAt_eq hlt
  unfold takeL at hx
  split at hx
  · cases hx
  · obtain rfl := Option.some.inj hx
    exact h.set hlt (by rw [hat]) h2 h3
theorem renewL_ok {ls : List Ls} {ow now un : Int} (h : LsOk ls) (h3 : Tm un) : LsOk (renewL ls ow now un) := by
  unfold renewL
  refine ⟨by rw [List.length_map]; exact h.1, fun x hx => ?_, ?_⟩
  · obtain ⟨y, hy, rfl⟩ := List.mem_map.1 hx
    have := h.2.1 y hy
    unfold rn1; split
    · exact ⟨this.1, this.2.1, h3⟩
    · exact this
  · rw [List.pairwise_map]
    refine h.2.2.imp fun {a b} hab => ?_
    have ha : ∀ z : Ls, (rn1 ow now un z).1 = z.1 := fun z => by unfold rn1; split <;> rfl
    simp only [ha]; exact hab
theorem itf_true (b c : Int) : ∀ xs : List It, itf b c true xs = xs.filter (fun x => decide (x.1 ≠ b))
  | [] => rfl
  | x :: xs => by
    have ih := itf_true b c xs
    simp only [itf, Bool.true_eq_false, false_and, if_false, Bool.true_or, List.nil_append, ih, List.filter_cons, decide_eq_true_eq]
    split <;> simp
theorem mem_itf {b c : Int} {y : It} : ∀ {xs : List It} {p : Bool}, y ∈ itf b c p xs ↔ (p = false ∧ y = (b, c)) ∨ (y ∈ xs ∧ y.1 ≠ b)
  | [], p => by cases p <;> simp [itf]
  | x :: xs, p => by
    have ih := mem_itf (b := b) (c := c) (y := y) (xs := xs) (p := p || decide (b ≤ x.1))
    have e1 : y ∈ (if p = false ∧ b ≤ x.1 then [(b, c)] else ([] : List It)) ↔ (p = false ∧ b ≤ x.1) ∧ y = (b, c) := by
      by_cases h : p = false ∧ b ≤ x.1
      · rw [if_pos h, List.mem_singleton]; exact ⟨fun g => ⟨h, g⟩, fun g => g.2⟩
      · rw [if_neg h]; exact ⟨fun g => absurd g (by simp), fun g => absurd g.1 h⟩
    have e2 : y ∈ (if x.1 ≠ b then [x] else ([] : List It)) ↔ x.1 ≠ b ∧ y = x := by
      by_cases h : x.1 ≠ b
      · rw [if_pos h, List.mem_singleton]; exact ⟨fun g => ⟨h, g⟩, fun g => g.2⟩
      · rw [if_neg h]; exact ⟨fun g => absurd g (by simp), fun g => absurd g.1 h⟩
    have e3 : (p || decide (b ≤ x.1)) = false ↔ p = false ∧ ¬ b ≤ x.1 := by simp
    rw [itf, List.mem_append, List.mem_append, ih, e1, e2, e3, List.mem_cons]
    constructor
    · rintro (⟨⟨h1, _⟩, h2⟩ | ⟨h1, h2⟩ | ⟨⟨h1, _⟩, h2⟩ | ⟨h1, h2⟩)
      · exact .inl ⟨h1, h2⟩
      · exact .inr ⟨.inl h2, by rw [h2]; exact h1⟩
      · exact .inl ⟨h1, h2⟩
      · exact .inr ⟨.inr h1, h2⟩
    · rintro (⟨h1, h2⟩ | ⟨h1 | h1, h2⟩)
      · by_cases h3 : b ≤ x.1
        · exact .inl ⟨⟨h1, h3⟩, h2⟩
        · exact .inr (.inr (.inl ⟨⟨h1, h3⟩, h2⟩))
      · exact .inr (.inl ⟨by rw [← h1]; exact h2, h1⟩)
      · exact .inr (.inr (.inr ⟨h1, h2⟩))
theorem pw_itf {b c : Int} : ∀ {xs : List It} {p : Bool} {lo : Int}, xs.Pairwise (fun a b => a.1 < b.1) → (∀ x ∈ xs, lo < x.1) → (p = false → lo < b) → (∀ y ∈ itf b c p xs, lo < y.1) ∧ (itf b c p xs).Pairwise (fun a b => a.1 < b.1)
  | [], p, lo, _, _, hb => by
    cases p
    · exact ⟨fun y hy => by simp [itf] at hy; subst hy; exact hb rfl, by simp [itf]⟩
    · exact ⟨fun y hy => by simp [itf] at hy, by simp [itf]⟩
  | x :: xs, p, lo, h, hlo, hb => by
    rw [List.pairwise_cons] at h
    have hx := hlo x (List.mem_cons_self ..)
    refine ⟨fun y hy => ?_, ?_⟩
    · rcases mem_itf.1 hy with ⟨h1, rfl⟩ | ⟨h1, _⟩
      · exact hb h1
      · exact hlo y h1
    · rw [itf]
      by_cases hp : p = false ∧ b ≤ x.1
      · have ih := pw_itf (b := b) (c := c) (xs := xs) (p := p || decide (b ≤ x.1)) (lo := x.1) h.2 (fun y hy => h.1 y hy) (fun h => by rw [hp.1, decide_eq_true hp.2] at h; cases h)
        rw [if_pos hp]
        split
        · rename_i hne
          have : b < x.1 := by have := hp.2; omega
          refine List.pairwise_cons.2 ⟨fun y hy => ?_, List.pairwise_cons.2 ⟨ih.1, ih.2⟩⟩
          rcases List.mem_cons.1 hy with rfl | hy
          · exact this
          · have := ih.1 y hy; simp only; omega
        · rename_i hne
          have : x.1 = b := Decidable.not_not.1 hne
          refine List.pairwise_cons.2 ⟨fun y hy => ?_, ih.2⟩
          have := ih.1 y hy; simp only; omega
      · rw [if_neg hp, List.nil_append]
        by_cases hlt : x.1 < b
        · have ih := pw_itf (b := b) (c := c) (xs := xs) (p := p || decide (b ≤ x.1)) (lo := x.1) h.2 (fun y hy => h.1 y hy) (fun _ => hlt)
          rw [if_pos (by omega)]
          exact List.pairwise_cons.2 ⟨ih.1, ih.2⟩
        · have hpt : p = true := by
            cases p
            · exact absurd ⟨rfl, by omega⟩ hp
            · rfl
          have ih := pw_itf (b := b) (c := c) (xs := xs) (p := p || decide (b ≤ x.1)) (lo := x.1) h.2 (fun y hy => h.1 y hy) (fun h => by rw [hpt] at h; cases h)
          split
          · exact List.pairwise_cons.2 ⟨ih.1, ih.2⟩
          · exact ih.2
theorem rgO_safe {r : List Nd} (h : RgSafe r) {kd a b : Int} (h2 : (rgO r kd a b).2 = true) : RgSafe (rgO r kd a b).1 := by
  have key : ∀ (ok : Prop) (o : Option (List Nd)), (ok → ∀ x, o = some x → RgSafe x) → (tk r ok o).2 = true → RgSafe (tk r ok o).1 := by
    intro ok o ho ht
    by_cases hok : RgSafe r ∧ ok
    · cases o with
      | none => rw [tk_none hok] at ht; cases ht
      | some x => rw [tk_some hok]; exact ho hok.2 x rfl
    · rw [tk_no hok] at ht; cases ht
  unfold rgO at h2 ⊢
  split at h2
  · rename_i hk; rw [if_pos hk]; exact key _ _ (fun hp x hx => joinR_safe h hp.1 hx) h2
  · rename_i hk; rw [if_neg hk]; split at h2
    · rename_i hk; rw [if_pos hk]; exact key _ _ (fun _ x hx => failR_safe hx) h2
    · rename_i hk; rw [if_neg hk]; split at h2
      · rename_i hk; rw [if_pos hk]; exact key _ _ (fun _ x hx => dropR_safe h hx) h2
      · rename_i hk; rw [if_neg hk]; split at h2
        · rename_i hk; rw [if_pos hk]; exact key _ _ (fun _ x hx => adoptR_safe h hx) h2
        · rename_i hk; rw [if_neg hk]; split at h2
          · rename_i hk; rw [if_pos hk]; exact key _ _ (fun _ x hx => closerR_safe h hx) h2
          · rename_i hk; rw [if_neg hk]; split at h2
            · rename_i hk; rw [if_pos hk]; exact key _ _ (fun _ x hx => notifyR_safe h hx) h2
            · cases h2
theorem leO_ok {w : Wd} (h : WdA w) {kd a b c : Int} (h2 : (leO w kd a b c).2 = true) : LsOk (leO w kd a b c).1 := by
  have key : ∀ (ok : Prop) (o : Option (List Ls)), (ok → ∀ x, o = some x → LsOk x) → (tkL w.leases ok o).2 = true → LsOk (tkL w.leases ok o).1 := by
    intro ok o ho ht
    by_cases hok : LsOk w.leases ∧ ok
    · cases o with
      | none => rw [tkL_none hok rfl] at ht; cases ht
      | some x => rw [tkL_some hok rfl]; exact ho hok.2 x rfl
    · rw [tkL_no hok] at ht; cases ht
  unfold leO at h2 ⊢
  split at h2
  · cases h2
  · rename_i hk; rw [if_neg hk]; split at h2
    · rename_i hk; rw [if_pos hk]; split at h2
      · rename_i hk; rw [if_pos hk]; exact key _ _ (fun hp x hx => handL_ok h.ls hp.2.1 hp.2.2.1 hp.2.2.2 hx) h2
      · cases h2
    · rename_i hk; rw [if_neg hk]; split at h2
      · rename_i hk; rw [if_pos hk]; exact key _ _ (fun hp x hx => takeL_ok h.ls hp.2.1 hp.2.2.2 hx) h2
      · rename_i hk; rw [if_neg hk]; split at h2
        · rename_i hk; rw [if_pos hk]; split at h2
          · rename_i hk; rw [if_pos hk]; exact renewL_ok h.ls (utl_tm h.now)
          · cases h2
        · cases h2
theorem leW_ls {w : Wd} (h : WdA w) (kd a b c : Int) : LsOk (leW w kd a b c).leases := by
  unfold leW; split
  · rename_i h2; exact leO_ok h h2
  · exact h.ls
theorem itW_it {w : Wd} (h : WdA w) {kd a b c : Int} (hk : kd = 11 ∨ kd = 12) : ItOk (itW w kd a b c).items ∧ Asc (itW w kd a b c).since := by
  unfold itW; split
  · rename_i hc
    refine ⟨⟨fun x hx => ?_, fun k hk' => ?_, ?_⟩, ?_⟩
    · rcases mem_itf.1 hx with ⟨h1, rfl⟩ | ⟨h1, _⟩
      · exact hc.2.2.2 (by have := of_decide_eq_false h1; omega)
      · exact h.it.1 x h1
    · obtain ⟨x, hx, rfl⟩ := List.mem_map.1 hk'
      rcases mem_itf.1 hx with ⟨_, rfl⟩ | ⟨h1, _⟩
      · exact hc.1
      · exact h.it.2.1 _ (List.mem_map.2 ⟨x, h1, rfl⟩)
    · exact List.pairwise_map.2 (pw_itf (lo := -1) (List.pairwise_map.1 h.it.2.2) (fun x hx => by have := (h.it.2.1 _ (List.mem_map.2 ⟨x, hx, rfl⟩)).1; omega) (fun _ => by have := hc.1.1; omega)).2
    · simp only; split
      · exact h.si.filter _
      · exact h.si
  · exact ⟨h.it, h.si⟩
theorem doW_a {w : Wd} (h : WdA w) (kd a b c : Int) : WdA (doW w kd a b c) := by
  have hu : ∀ w' : Wd, w'.now = w.now → w'.leases = w.leases → w'.items = w.items → w'.scan = w.scan → w'.since = w.since → WdA w' := fun w' e1 e2 e3 e4 e5 => ⟨e1 ▸ h.now, e2 ▸ h.ls, e3 ▸ h.it, e4 ▸ h.sc, e5 ▸ h.si⟩
  unfold doW; split
  · refine ⟨?_, leW_ls h kd a b c, ?_, ?_, ?_⟩ <;> unfold leW <;> split
    all_goals first | exact h.now | exact h.it | exact h.sc | exact h.si
  · split
    · exact ⟨⟨by have := h.now.1; show 0 ≤ min (w.now + 1) 999; omega, by show min (w.now + 1) 999 ≤ 999; omega⟩, h.ls, h.it, h.sc, h.si⟩
    · split
      · rename_i hk
        have hi := itW_it h (a := a) (b := b) (c := c) hk
        refine ⟨?_, ?_, hi.1, ?_, hi.2⟩ <;> unfold itW <;> split
        all_goals first | exact h.now | exact h.ls | exact h.sc
      · split
        · exact ⟨h.now, h.ls, h.it, SnOk.zero, h.it.2⟩
        · split
          · unfold scW; split
            · rename_i hc; exact ⟨h.now, h.ls, h.it, h.sc.stp h.ls h.it.2 hc.1, h.si⟩
            · exact h
          · unfold rgW; split
            · exact hu _ rfl rfl rfl rfl rfl
            · exact h
theorem doW_ring {w : Wd} (h : RgSafe w.ring) (kd a b c : Int) : RgSafe (doW w kd a b c).ring := by
  unfold doW; split
  · unfold leW; split <;> exact h
  · split
    · exact h
    · split
      · unfold itW; split <;> exact h
      · split
        · exact h
        · split
          · unfold scW; split <;> exact h
          · unfold rgW; split
            · rename_i h2; exact rgO_safe h h2
            · exact h
theorem doW_si {w : Wd} (h : WdOk w) (kd a b c : Int) : SiOk (doW w kd a b c) := by
  have hs := h.2.2.2.2.2.2
  unfold doW; split
  · unfold leW; split <;> exact hs
  · split
    · exact hs
    · split
      · unfold itW; split
        · intro k hk
          simp only at hk ⊢
          have hk' : k ∈ w.since ∧ (kd = 12 → k ≠ b) := by
            split at hk
            · rw [List.mem_filter] at hk; exact ⟨hk.1, fun _ => by simpa using hk.2⟩
            · rename_i h12; exact ⟨hk, fun h => absurd h h12⟩
          obtain ⟨h1, h2⟩ := hs k hk'.1
          refine ⟨?_, h2⟩
          obtain ⟨x, hx, rfl⟩ := List.mem_map.1 h1
          by_cases hxb : x.1 = b
          · by_cases h12 : kd = 12
            · exact absurd hxb (hk'.2 h12)
            · exact List.mem_map.2 ⟨(b, c), mem_itf.2 (.inl ⟨decide_eq_false h12, rfl⟩), hxb.symm⟩
          · exact List.mem_map.2 ⟨x, mem_itf.2 (.inr ⟨hx, hxb⟩), rfl⟩
        · exact hs
      · split
        · exact fun k hk => ⟨hk, fun h0 => by have := (h.2.2.2.1.2.1 k hk).1; simp only at h0; omega⟩
        · split
          · unfold scW; split
            · intro k hk
              obtain ⟨h1, h2⟩ := hs k hk
              refine ⟨h1, fun hlt => ?_⟩
              simp only [stp] at hlt ⊢
              by_cases hk0 : k < w.scan.1
              · exact List.mem_append_left _ (h2 hk0)
              · exact List.mem_append_right _ (List.mem_filter.2 ⟨h1, decide_eq_true ⟨by omega, hlt⟩⟩)
            · exact hs
          · unfold rgW; split <;> exact hs
theorem doW_ok {w : Wd} (h : WdOk w) (kd a b c : Int) : WdOk (doW w kd a b c) :=
  have g := doW_a h.wda kd a b c
  ⟨g.now, doW_ring h.2.1 kd a b c, g.ls, g.it, g.sc, g.si, doW_si h kd a b c⟩
noncomputable def wdF (w : Wd) (kd a b c : Int) : Wd := if dec (WdOk w) = true then doW w kd a b c else wdZ
theorem wdF_no {w : Wd} {kd a b c : Int} (h : ¬ WdOk w) : wdF w kd a b c = wdZ := by unfold wdF; rw [if_neg (by rw [dec_f h]; simp)]
theorem wdF_yes {w : Wd} {kd a b c : Int} (h : WdOk w) : wdF w kd a b c = doW w kd a b c := if_pos (dec_t h)
theorem doW_le {wd : Wd} {kd a b c : Int} (hk : kd = 7 ∨ kd = 8 ∨ kd = 9) : doW wd kd a b c = leW wd kd a b c := if_pos hk
theorem own_cases (wd : Wd) (k : Int) : own wd k = -1 ∨ own wd k ∈ ids wd.ring := by
  unfold own
  by_cases hc : (lsAt wd.leases k).2.2 < wd.now ∨ (lsAt wd.leases k).2.1 ∉ ids wd.ring
  · rw [if_pos hc]; exact .inl rfl
  · rw [if_neg hc]; exact .inr (Classical.not_not.1 fun h' => hc (.inr h'))
def vOf (xs : List It) (k : Int) : Int := ((xs.find? (fun x => decide (x.1 = k))).map (·.2)).getD (-1)
theorem doW_it' {wd : Wd} {kd a b c : Int} (hk : kd = 11 ∨ kd = 12) : doW wd kd a b c = itW wd kd a b c := by
  unfold doW; rw [if_neg (by omega), if_neg (by omega), if_pos hk]
def dr (r : List Nd) (id : Int) : List Nd := (dropR r id).getD r
def drN : Nat → List Nd → Int → List Nd
  | 0, r, _ => r
  | n + 1, r, id => drN n (dr r id) id
def ad1 (r : List Nd) (id : Int) : List Nd := (adoptR r id).getD r
def clo1 (r : List Nd) (id : Int) : List Nd :=
  if 0 ≤ (ndAt r (a0 (ndAt r id))).2.1 then (closerR r id (ndAt r (a0 (ndAt r id))).2.1).getD r else r
def not1 (r : List Nd) (id : Int) : List Nd := (notifyR r (a0 (ndAt r id)) id).getD r
def stabR (r : List Nd) (id : Int) : List Nd := not1 (clo1 (ad1 (drN 2 r id) id) id) id
theorem fx_ids {r r' : List Nd} (h : ids r = ids r') (id : Int) : fx r id = fx r' id := by
  have e : ∀ r : List Nd, fx r id = (ids r).findIdx (fun x => x == id) := fun r => by unfold fx ids; rw [List.findIdx_map]; rfl
  rw [e, e, h]
theorem ndAt_setN {r : List Nd} {id : Int} {n : Nd} (hid : id ∈ ids r) (h : n.1 = id) : ndAt (setN r id n) id = n := by
  unfold ndAt
  rw [fx_ids (ids_setN hid h)]
  unfold setN
  rw [List.getD_eq_getElem?_getD, List.getElem?_set_self (fx_lt hid)]; rfl
theorem dr_none {r : List Nd} {id : Int} (h : dropR r id = none) : dr r id = r := by unfold dr; rw [h]; rfl
theorem dr_safe {r : List Nd} {id : Int} (h : RgSafe r) : RgSafe (dr r id) := by
  unfold dr; cases hd : dropR r id with
  | none => exact h
  | some x => exact dropR_safe h hd
theorem dr_ids {r : List Nd} {id : Int} : ids (dr r id) = ids r := by
  unfold dr dropR; split
  · next h => exact ids_setN h.1 rfl
  · rfl
theorem drN_fix {r : List Nd} {id : Int} (h : dr r id = r) : ∀ n, drN n r id = r
  | 0 => rfl
  | n + 1 => by show drN n (dr r id) id = r; rw [h]; exact drN_fix h n
theorem drN_safe {id : Int} : ∀ n (r : List Nd), RgSafe r → RgSafe (drN n r id)
  | 0, _, h => h
  | n + 1, _, h => drN_safe n _ (dr_safe h)
theorem drN_ids {id : Int} : ∀ n (r : List Nd), ids (drN n r id) = ids r
  | 0, _ => rfl
  | n + 1, _ => (drN_ids n _).trans dr_ids
theorem dr_len {r : List Nd} {id : Int} (h : RgSafe r) (hid : id ∈ ids r) : (ndAt r id).2.2.length = 2 := (h.1.2.1 _ (ndAt_mem hid)).2.2.1
theorem dr2_live {r : List Nd} {id : Int} (h : RgSafe r) (hid : id ∈ ids r) : a0 (ndAt (drN 2 r id) id) ∈ ids r := by
  by_cases ha : a0 (ndAt r id) ∈ ids r
  · rw [drN_fix (dr_none (dropR_no fun h => h.2 ha))]; exact ha
  · have h1 : a1 (ndAt r id) ∈ ids r := by
      obtain ⟨k, hk, hk'⟩ := h.2.1 _ (ndAt_mem hid)
      rw [aft2 (dr_len h hid)] at hk
      rcases List.mem_cons.1 hk with rfl | hk
      · exact absurd hk' ha
      · rcases List.mem_cons.1 hk with rfl | hk
        · exact hk'
        · cases hk
    have hd : dr r id = setN r id (id, (ndAt r id).2.1, [a1 (ndAt r id), (a1 (ndAt r id) + 1) % 64]) := by unfold dr; rw [dropR_yes ⟨hid, ha⟩]; rfl
    have hn : ndAt (dr r id) id = (id, (ndAt r id).2.1, [a1 (ndAt r id), (a1 (ndAt r id) + 1) % 64]) := by rw [hd]; exact ndAt_setN hid rfl
    have hl : a0 (ndAt (dr r id) id) ∈ ids r := by rw [hn]; exact h1
    have : drN 2 r id = dr r id := by
      show dr (dr r id) id = _
      exact dr_none (dropR_no fun h => h.2 (by rw [dr_ids]; exact hl))
    rw [this]; exact hl
theorem foll_ids {r : List Nd} {id s : Int} (hid : id ∈ ids r) : ids (foll r id s) = ids r := ids_setN hid rfl
theorem a0_foll {r : List Nd} {id s : Int} (hid : id ∈ ids r) : a0 (ndAt (foll r id s) id) = s := by
  unfold foll; rw [ndAt_setN hid rfl]; rfl
theorem ad1_safe {r : List Nd} {id : Int} (h : RgSafe r) : RgSafe (ad1 r id) := by
  unfold ad1; cases hd : adoptR r id with
  | none => exact h
  | some x => exact adoptR_safe h hd
theorem ad1_ids {r : List Nd} {id : Int} : ids (ad1 r id) = ids r := by
  unfold ad1 adoptR; split
  · next h => exact foll_ids h.1
  · rfl
theorem ad1_live {r : List Nd} {id : Int} (hid : id ∈ ids r) (h : a0 (ndAt r id) ∈ ids r) : a0 (ndAt (ad1 r id) id) ∈ ids r := by
  unfold ad1; rw [adoptR_yes ⟨hid, h⟩]; show a0 (ndAt (foll r id _) id) ∈ _
  rw [a0_foll hid]; exact h
theorem clo_safe {r : List Nd} {id o : Int} (h : RgSafe r) : RgSafe ((closerR r id o).getD r) := by
  cases hd : closerR r id o with
  | none => exact h
  | some x => exact closerR_safe h hd
theorem clo_ids {r : List Nd} {id o : Int} : ids ((closerR r id o).getD r) = ids r := by
  unfold closerR; split
  · next h => exact foll_ids h.1
  · rfl
theorem clo_live {r : List Nd} {id o : Int} (h : a0 (ndAt r id) ∈ ids r) : a0 (ndAt ((closerR r id o).getD r) id) ∈ ids r := by
  unfold closerR; split
  · next h => show a0 (ndAt (foll r id o) id) ∈ _; rw [a0_foll h.1]; exact h.2.1
  · exact h
theorem clo1_safe {r : List Nd} {id : Int} (h : RgSafe r) : RgSafe (clo1 r id) := by unfold clo1; (split; exact clo_safe h; exact h)
theorem clo1_ids {r : List Nd} {id : Int} : ids (clo1 r id) = ids r := by unfold clo1; (split; exact clo_ids; rfl)
theorem clo1_live {r : List Nd} {id : Int} (h : a0 (ndAt r id) ∈ ids r) : a0 (ndAt (clo1 r id) id) ∈ ids r := by unfold clo1; (split; exact clo_live h; exact h)
theorem not1_safe {r : List Nd} {id : Int} (h : RgSafe r) : RgSafe (not1 r id) := by
  unfold not1; cases hd : notifyR r (a0 (ndAt r id)) id with
  | none => exact h
  | some x => exact notifyR_safe h hd
theorem not1_ids {r : List Nd} {id : Int} : ids (not1 r id) = ids r := by
  unfold not1 notifyR; split
  · next h => exact ids_setN h.1 rfl
  · rfl
theorem stabR_safe {r : List Nd} {id : Int} (h : RgSafe r) : RgSafe (stabR r id) := not1_safe (clo1_safe (ad1_safe (drN_safe 2 r h)))
theorem stabR_ids {r : List Nd} {id : Int} : ids (stabR r id) = ids r := not1_ids.trans (clo1_ids.trans (ad1_ids.trans (drN_ids 2 r)))
def stR (r : List Nd) (id : Int) : Option (List Nd) := if id ∈ ids r then some (stabR r id) else none
theorem ot_dr {r : List Nd} {id : Int} : (ot r (dropR r id)).1 = dr r id := by unfold ot dr; cases dropR r id <;> rfl
theorem ot_1 {r : List Nd} {o : Option (List Nd)} : (ot r o).1 = o.getD r := by cases o <;> rfl
theorem ot_b {r : List Nd} {o : Option (List Nd)} : (ot r o).2 = o.isSome := by cases o <;> rfl
end Go.Ro
