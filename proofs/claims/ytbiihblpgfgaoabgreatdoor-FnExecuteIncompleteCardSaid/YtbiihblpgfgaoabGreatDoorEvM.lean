/- Scripts: what a line does and prints, what a whole script prints, in plain lists of bytes. Five scripts at hand: what they print. Conditions: those that each row states. -/
import Derived.Test.YtbiihblpgfgaoabGreatDoorSpM
import Derived.WalkKit
namespace Go.Ro
open Go
/-! numbers -/
def num (n : Int) : List UInt8 := Lib.itoa n
theorem dd_st {m : Nat} (h : ¬ m < 10) : Lib.decDigits m = Lib.decDigits (m / 10) ++ [UInt8.ofNat (48 + m % 10)] := by rw [Lib.decDigits, dif_neg h]
theorem dd_ge : ∀ (m : Nat), ∀ x ∈ Lib.decDigits m, x ≠ 10 ∧ x ≠ 32 := by
  intro m
  induction m using Nat.strongRecOn with
  | ind m ih =>
    have dg : ∀ d : Nat, d < 10 → UInt8.ofNat (48 + d) ≠ 10 ∧ UInt8.ofNat (48 + d) ≠ 32 := by
      have : ∀ d : Fin 10, UInt8.ofNat (48 + d.val) ≠ 10 ∧ UInt8.ofNat (48 + d.val) ≠ 32 := by decide +kernel
      exact fun d hd => this ⟨d, hd⟩
    intro x hx
    by_cases h : m < 10
    · rw [Lib.decDigits_one h] at hx
      rw [List.mem_singleton.1 hx]; exact dg m h
    · rw [dd_st h] at hx
      rcases List.mem_append.1 hx with hx | hx
      · exact ih (m / 10) (by omega) x hx
      · rw [List.mem_singleton.1 hx]; exact dg _ (by omega)
theorem num_ne {n : Int} : ∀ x ∈ num n, x ≠ 10 := by
  intro x hx
  unfold num Lib.itoa at hx
  split at hx
  · rcases List.mem_cons.1 hx with rfl | hx
    · decide
    · exact (dd_ge _ x hx).1
  · exact (dd_ge _ x hx).1
theorem dd_le : ∀ k m : Nat, m < 10 ^ (k + 1) → (Lib.decDigits m).length ≤ k + 1 := by
  intro k
  induction k with
  | zero => intro m hm; rw [Lib.decDigits_one (by omega)]; simp
  | succ k ih =>
    intro m hm
    by_cases h : m < 10
    · rw [Lib.decDigits_one h]; simp
    · rw [dd_st h, List.length_append]
      have := ih (m / 10) (by rw [Nat.pow_succ] at hm; omega)
      simp only [List.length_singleton]; omega
theorem num_len {n : Int} (h0 : -1000000 ≤ n) (h1 : n ≤ 1000000) : (num n).length ≤ 8 := by
  unfold num Lib.itoa
  split
  · have := dd_le 6 n.natAbs (by omega)
    simp only [List.length_cons]; omega
  · have := dd_le 6 n.toNat (by omega)
    omega
theorem num_pos {n : Int} : 1 ≤ (num n).length := by
  unfold num Lib.itoa
  have : ∀ m, 1 ≤ (Lib.decDigits m).length := fun m => by rw [Lib.decDigits_length]; exact Lib.nDigits_pos m
  split
  · simp
  · exact this _
def numD (n : Int) : List UInt8 := if n < 10 then [UInt8.ofNat (48 + n.toNat)] else [UInt8.ofNat (48 + n.toNat / 10), UInt8.ofNat (48 + n.toNat % 10)]
theorem num_D {n : Int} (h0 : 0 ≤ n) (h1 : n < 100) : num n = numD n := by
  unfold num Lib.itoa numD
  rw [if_neg (by omega)]
  by_cases h : n < 10
  · rw [if_pos h, Lib.decDigits_one (by omega)]
  · rw [if_neg h, Lib.decDigits_two (by omega) (by omega)]
/-! what is printed -/
def nmCalm : List UInt8 := [99, 97, 108, 109]
def nmRing : List UInt8 := [114, 105, 110, 103]
def nmLeases : List UInt8 := [108, 101, 97, 115, 101, 115]
def nmOwner : List UInt8 := [111, 119, 110, 101, 114]
def tWhat : List UInt8 := [119, 104, 97, 116]
def tItems : List UInt8 := [105, 116, 101, 109, 115]
def tScan : List UInt8 := [115, 99, 97, 110]
def tLong : List UInt8 := [116, 111, 111, 32, 108, 111, 110, 103, 10]
def ndT (x : Nd) : List UInt8 := num x.1 ++ [32] ++ num x.2.1 ++ [32] ++ num (a0 x) ++ [32] ++ num (a1 x) ++ [10]
def rgT (r : List Nd) : List UInt8 := r.flatMap ndT
def l1T (x : Ls) : List UInt8 := num x.1 ++ [32] ++ num x.2.1 ++ [32] ++ num x.2.2 ++ [10]
def lsT (ls : List Ls) : List UInt8 := ls.flatMap l1T
def it1 (x : It) : List UInt8 := [32] ++ num x.1 ++ [61] ++ num x.2
def itT (xs : List It) : List UInt8 := tItems ++ xs.flatMap it1
def sc1 (k : Int) : List UInt8 := [32] ++ num k
def scT (s : Sn) : List UInt8 := tScan ++ [32] ++ num s.1 ++ s.2.flatMap sc1
def stT (w : Wd) : List UInt8 := itT w.items ++ [10] ++ (scT w.scan ++ [10])
def ownF (w : Wd) (k : Int) : Int := if Pt k then own w k else -1
theorem flatT_len {α : Type} {f : α → List UInt8} {k : Nat} : ∀ {xs : List α}, (∀ x ∈ xs, (f x).length ≤ k) → (xs.flatMap f).length ≤ k * xs.length
  | [], _ => by simp
  | x :: xs, h => by
    rw [List.flatMap_cons, List.length_append, List.length_cons, Nat.mul_succ]
    have h1 := h x (List.mem_cons_self ..)
    have h2 := flatT_len (xs := xs) (fun y hy => h y (List.mem_cons_of_mem _ hy))
    omega
theorem ndT_len {x : Nd} (h : NdOk x) : (ndT x).length ≤ 36 := by
  obtain ⟨h1, h2, h3, h4⟩ := h
  have g0 : Pt (a0 x) := h4 _ (by unfold a0; rw [List.getD_eq_getElem?_getD, List.getElem?_eq_getElem (by omega : 0 < x.2.2.length)]; exact List.getElem_mem _)
  have g1 : Pt (a1 x) := h4 _ (by unfold a1; rw [List.getD_eq_getElem?_getD, List.getElem?_eq_getElem (by omega : 1 < x.2.2.length)]; exact List.getElem_mem _)
  have k1 := num_len (n := x.1) (by omega) (by omega)
  have k2 := num_len (n := x.2.1) (by omega) (by omega)
  have k3 := num_len (n := a0 x) (by omega) (by omega)
  have k4 := num_len (n := a1 x) (by omega) (by omega)
  simp only [ndT, List.length_append, List.length_singleton]; omega
theorem rgT_len {r : List Nd} (h : RgOk r) : (rgT r).length ≤ 360 := by
  have := flatT_len (f := ndT) (k := 36) (xs := r) (fun x hx => ndT_len (h.2.1 x hx))
  have h1 := h.1
  unfold rgT
  have : 36 * r.length ≤ 360 := by omega
  omega
theorem l1T_len {x : Ls} (h : Pt x.1 ∧ Pt x.2.1 ∧ Tm x.2.2) : (l1T x).length ≤ 27 := by
  obtain ⟨h1, h2, h3⟩ := h
  have k1 := num_len (n := x.1) (by omega) (by omega)
  have k2 := num_len (n := x.2.1) (by omega) (by omega)
  have k3 := num_len (n := x.2.2) (by omega) (by omega)
  simp only [l1T, List.length_append, List.length_singleton]; omega
theorem lsT_len {ls : List Ls} (h : LsOk ls) : (lsT ls).length ≤ 360 := by
  have := flatT_len (f := l1T) (k := 27) (xs := ls) (fun x hx => l1T_len (h.2.1 x hx))
  have h1 := h.1.2
  unfold lsT
  have : 27 * ls.length ≤ 360 := by omega
  omega
theorem it1_len {xs : List It} (h : ItOk xs) {x : It} (hx : x ∈ xs) : (it1 x).length ≤ 18 := by
  have h1 := h.1 x hx
  have h2 : Pt x.1 := h.2.1 _ (List.mem_map_of_mem (f := (·.1)) hx)
  have k1 := num_len (n := x.1) (by omega) (by omega)
  have k2 := num_len (n := x.2) (by omega) (by omega)
  simp only [it1, List.length_append, List.length_singleton]; omega
theorem it_len {xs : List It} (h : ItOk xs) : xs.length ≤ 64 := by
  have := h.2.len; unfold keys at this; rwa [List.length_map] at this
theorem own_bd {w : Wd} (h : WdOk w) (k : Int) : -1 ≤ own w k ∧ own w k ≤ 63 := by
  rcases own_cases w k with h1 | h1
  · omega
  · have := h.2.1.1.ptId h1; omega
theorem ownF_bd {w : Wd} (h : WdOk w) (k : Int) : -1 ≤ ownF w k ∧ ownF w k ≤ 63 := by
  unfold ownF
  split
  · exact own_bd h k
  · omega
/-! a line -/
noncomputable def lnH (w : Wd) (ws : List (List UInt8)) (h : List UInt8) : Wd × List UInt8 :=
  if 0 < kdL h then (doW w (kdL h) (numL ws 1) (numL ws 2) (numL ws 3), [])
  else if h = nmCalm then (calF w, [])
  else if h = nmRing then (w, rgT w.ring)
  else if h = nmLeases then (w, lsT w.leases)
  else if h = nmOwner then (w, num (ownF w (numL ws 1)) ++ [10])
  else (w, tWhat ++ [10])
noncomputable def lnW (w : Wd) (l : List UInt8) : Wd × List UInt8 := lnH w (ctL 32 l) ((ctL 32 l).headD [])
theorem lnW_H {w : Wd} {l : List UInt8} {ws : List (List UInt8)} {h : List UInt8} (e : ctL 32 l = h :: ws) : lnW w l = lnH w (h :: ws) h := by unfold lnW; rw [e]; rfl
theorem lnW_ok {w : Wd} (h : WdOk w) (l : List UInt8) : WdOk (lnW w l).1 := by
  unfold lnW lnH
  split
  · exact doW_ok h _ _ _ _
  split
  · show WdOk (calF w)
    rw [calF_yes h]; exact calW_ok h
  split
  · exact h
  split
  · exact h
  split
  · exact h
  · exact h
theorem lnW_len {w : Wd} (h : WdOk w) (l : List UInt8) : (lnW w l).2.length ≤ 360 := by
  unfold lnW lnH
  split
  · simp
  split
  · simp
  split
  · exact rgT_len h.2.1.1
  split
  · exact lsT_len h.2.2.1
  split
  · have h1 := ownF_bd h (numL (ctL 32 l) 1)
    have := num_len (n := ownF w (numL (ctL 32 l) 1)) (by omega) (by omega)
    simp only [List.length_append, List.length_singleton]; omega
  · show (tWhat ++ [10]).length ≤ 360
    decide
def Eol (o : List UInt8) : Prop := o = [] ∨ ∃ p, o = p ++ [10]
theorem Eol.nil : Eol [] := .inl rfl
theorem Eol.app {o p : List UInt8} (ho : Eol o) (hp : Eol p) : Eol (o ++ p) := by
  rcases hp with rfl | ⟨q, rfl⟩
  · simpa using ho
  · exact .inr ⟨o ++ q, by simp⟩
theorem Eol.flat {α : Type} {f : α → List UInt8} (h : ∀ x, Eol (f x)) : ∀ xs : List α, Eol (xs.flatMap f)
  | [] => .nil
  | x :: xs => by rw [List.flatMap_cons]; exact (h x).app (Eol.flat h xs)
theorem lnW_eol (w : Wd) (l : List UInt8) : Eol (lnW w l).2 := by
  unfold lnW lnH
  split
  · exact .nil
  split
  · exact .nil
  split
  · exact Eol.flat (fun x => .inr ⟨_, rfl⟩) _
  split
  · exact Eol.flat (fun x => .inr ⟨_, rfl⟩) _
  split
  · exact .inr ⟨_, rfl⟩
  · exact .inr ⟨_, rfl⟩
/-! a script -/
def ids0 : List Int := [5, 20, 35, 50]
noncomputable def lnS (s : Wd × List UInt8) (l : List UInt8) : Wd × List UInt8 := ((lnW s.1 l).1, s.2 ++ (lnW s.1 l).2)
noncomputable def runL (ls : List (List UInt8)) : Wd × List UInt8 := ls.foldl lnS (newW ids0, [])
noncomputable def outL (ls : List (List UInt8)) : List UInt8 := (runL ls).2 ++ stT (runL ls).1
noncomputable def exT (t : List UInt8) : List UInt8 := if 600 < t.length then tLong else outL (ctL 10 t).dropLast
theorem ids0_ok : NdsOk ids0 := ⟨by decide, by decide, by decide⟩
theorem new0_ok : WdOk (newW ids0) := newW_ok ids0_ok (by decide)
theorem runL_snoc (ls : List (List UInt8)) (l : List UInt8) : runL (ls ++ [l]) = lnS (runL ls) l := by unfold runL; rw [List.foldl_append]; rfl
theorem runL_take {ls : List (List UInt8)} {i : Nat} (hi : i < ls.length) : runL (ls.take (i + 1)) = lnS (runL (ls.take i)) ls[i] := by
  rw [List.take_succ_eq_append_getElem hi, runL_snoc]
theorem snoc_ind {α : Type} {p : List α → Prop} (h0 : p []) (h1 : ∀ l x, p l → p (l ++ [x])) (l : List α) : p l := by
  have : ∀ m : List α, p m.reverse := by
    intro m
    induction m with
    | nil => exact h0
    | cons x m ih => rw [List.reverse_cons]; exact h1 _ _ ih
  have := this l.reverse
  rwa [List.reverse_reverse] at this
theorem runL_ok (ls : List (List UInt8)) : WdOk (runL ls).1 :=
  snoc_ind (p := fun ls => WdOk (runL ls).1) new0_ok (fun ls l h => by rw [runL_snoc]; exact lnW_ok h l) ls
theorem runL_len (ls : List (List UInt8)) : (runL ls).2.length ≤ 360 * ls.length :=
  snoc_ind (p := fun ls => (runL ls).2.length ≤ 360 * ls.length) (by simp [runL]) (fun ls l h => by
    rw [runL_snoc]
    have := lnW_len (runL_ok ls) l
    show ((runL ls).2 ++ (lnW (runL ls).1 l).2).length ≤ _
    rw [List.length_append, List.length_append, List.length_singleton]; omega) ls
theorem runL_eol (ls : List (List UInt8)) : Eol (runL ls).2 :=
  snoc_ind (p := fun ls => Eol (runL ls).2) .nil (fun ls l h => by rw [runL_snoc]; exact h.app (lnW_eol _ l)) ls
theorem exT_long {t : List UInt8} (h : 600 < t.length) : exT t = tLong := if_pos h
theorem exT_short {t : List UInt8} (h : t.length ≤ 600) : exT t = outL (ctL 10 t).dropLast := if_neg (by omega)
/-! the last two lines -/
def lstN (t : List UInt8) : Nat → Nat → List UInt8
  | 0, _ => t
  | i + 1, n => if (if t[i]? = some 10 then n + 1 else n) = 3 then t.drop (i + 1) else lstN t i (if t[i]? = some 10 then n + 1 else n)
def lstT (t : List UInt8) : List UInt8 := lstN t t.length 0
theorem lstN_go {b S : List UInt8} (hb : Eol b) : ∀ (j n : Nat), j ≤ S.length → n + (S.take j).count 10 = 2 → lstN (b ++ S) (b.length + j) n = S
  | 0, n, _, h => by
    have hn : n = 2 := by simpa using h
    subst hn
    rcases hb with rfl | ⟨p, rfl⟩
    · rfl
    · have : (p ++ [10] ++ S)[p.length]? = some 10 := by simp
      have h1 : (p ++ [10]).length + 0 = p.length + 1 := by simp
      rw [h1, lstN, if_pos this, if_pos rfl]
      simp
  | j + 1, n, hj, h => by
    have hat : (b ++ S)[b.length + j]? = some (S[j]'(by omega)) := by
      rw [List.getElem?_append_right (by omega), Nat.add_sub_cancel_left, List.getElem?_eq_getElem (by omega)]
    rw [List.take_succ_eq_append_getElem (by omega : j < S.length), List.count_append] at h
    rw [show b.length + (j + 1) = (b.length + j) + 1 by omega, lstN, hat]
    by_cases hc : S[j]'(by omega) = 10
    · rw [hc] at h ⊢
      rw [if_pos rfl]
      have h1 : n + 1 + (S.take j).count 10 = 2 := by simp at h; omega
      rw [if_neg (by omega)]
      exact lstN_go hb j (n + 1) (by omega) h1
    · have hne : ¬ some (S[j]'(by omega)) = some (10 : UInt8) := fun e => hc (Option.some.inj e)
      rw [if_neg hne]
      have h1 : n + (S.take j).count 10 = 2 := by
        have : List.count 10 [S[j]'(by omega)] = 0 := by rw [List.count_eq_zero]; intro hm; exact hc (List.mem_singleton.1 hm).symm
        omega
      rw [if_neg (by omega)]
      exact lstN_go hb j n (by omega) h1
theorem cnt0 {l : List UInt8} (h : ∀ x ∈ l, x ≠ 10) : l.count 10 = 0 := List.count_eq_zero.2 fun hm => h _ hm rfl
theorem flat_ne {α : Type} {f : α → List UInt8} (h : ∀ x, ∀ y ∈ f x, y ≠ 10) (xs : List α) : ∀ y ∈ xs.flatMap f, y ≠ 10 := by
  intro y hy
  obtain ⟨x, _, hx⟩ := List.mem_flatMap.1 hy
  exact h x y hx
theorem itT_ne (xs : List It) : ∀ y ∈ itT xs, y ≠ 10 := by
  intro y hy
  rcases List.mem_append.1 hy with hy | hy
  · exact (show ∀ y ∈ tItems, y ≠ 10 by decide) y hy
  · refine flat_ne (fun x y hy => ?_) xs y hy
    unfold it1 at hy
    rcases List.mem_append.1 hy with hy | hy
    · rcases List.mem_append.1 hy with hy | hy
      · rcases List.mem_append.1 hy with hy | hy
        · rw [List.mem_singleton.1 hy]; decide
        · exact num_ne y hy
      · rw [List.mem_singleton.1 hy]; decide
    · exact num_ne y hy
theorem scT_ne (s : Sn) : ∀ y ∈ scT s, y ≠ 10 := by
  intro y hy
  rcases List.mem_append.1 hy with hy | hy
  · rcases List.mem_append.1 hy with hy | hy
    · rcases List.mem_append.1 hy with hy | hy
      · exact (show ∀ y ∈ tScan, y ≠ 10 by decide) y hy
      · rw [List.mem_singleton.1 hy]; decide
    · exact num_ne y hy
  · refine flat_ne (fun x y hy => ?_) s.2 y hy
    rcases List.mem_append.1 hy with hy | hy
    · rw [List.mem_singleton.1 hy]; decide
    · exact num_ne y hy
theorem stT_cnt (w : Wd) : (stT w).count 10 = 2 := by
  unfold stT
  rw [List.count_append, List.count_append, List.count_append, cnt0 (itT_ne _), cnt0 (scT_ne _)]; rfl
theorem lstT_st {b : List UInt8} (hb : Eol b) (w : Wd) : lstT (b ++ stT w) = stT w := by
  unfold lstT
  rw [List.length_append]
  exact lstN_go hb _ 0 (Nat.le_refl _) (by rw [List.take_length, stT_cnt])
theorem lst_out (ls : List (List UInt8)) : lstT (outL ls) = stT (runL ls).1 := lstT_st (runL_eol ls) _
/-! the whole lines -/
def cmpN (t : List UInt8) : Nat → List UInt8
  | 0 => []
  | i + 1 => if t[i]? = some 10 then t.take (i + 1) else cmpN t i
def cmpT (t : List UInt8) : List UInt8 := cmpN t t.length
theorem cmpN_spec (t : List UInt8) : ∀ i, i ≤ t.length → (∀ j, i ≤ j → t[j]? ≠ some 10) → ∃ c r, t = c ++ r ∧ cmpN t i = c ∧ Eol c ∧ ∀ x ∈ r, x ≠ 10
  | 0, _, h => ⟨[], t, rfl, rfl, .nil, fun x hx e => by
      subst e
      obtain ⟨j, hj, he⟩ := List.getElem_of_mem hx
      exact h j (Nat.zero_le _) (by rw [List.getElem?_eq_getElem hj, he])⟩
  | i + 1, hi, h => by
    by_cases hc : t[i]? = some 10
    · refine ⟨t.take (i + 1), t.drop (i + 1), (List.take_append_drop _ _).symm, by rw [cmpN, if_pos hc], .inr ⟨t.take i, ?_⟩, ?_⟩
      · rw [List.take_add_one, hc]; rfl
      · intro x hx e
        subst e
        obtain ⟨j, hj, he⟩ := List.getElem_of_mem hx
        exact h (i + 1 + j) (by omega) (by rw [← List.getElem?_drop, List.getElem?_eq_getElem hj, he])
    · rw [cmpN, if_neg hc]
      exact cmpN_spec t i (by omega) fun j hj => by
        rcases Nat.eq_or_lt_of_le hj with h1 | h1
        · rw [← h1]; exact hc
        · exact h j h1
theorem cmp_spec (t : List UInt8) : ∃ r, t = cmpT t ++ r ∧ Eol (cmpT t) ∧ ∀ x ∈ r, x ≠ 10 := by
  obtain ⟨c, r, h1, h2, h3, h4⟩ := cmpN_spec t t.length (Nat.le_refl _) (fun j hj e => by rw [List.getElem?_eq_none hj] at e; cases e)
  unfold cmpT
  rw [h2]; exact ⟨r, h1, h3, h4⟩
theorem cmp_len (t : List UInt8) : (cmpT t).length ≤ t.length := by
  obtain ⟨r, h, _⟩ := cmp_spec t
  have := congrArg List.length h
  rw [List.length_append] at this; omega
theorem ctA_app (c : UInt8) : ∀ (l cur m : List UInt8), ctA c cur (l ++ c :: m) = ctA c cur l ++ ctL c m
  | [], cur, m => by simp [ctA, ctL]
  | x :: l, cur, m => by
    rw [List.cons_append, ctA, ctA]
    by_cases h : x = c
    · rw [if_pos h, if_pos h, ctA_app c l [] m]; rfl
    · rw [if_neg h, if_neg h, ctA_app c l _ m]
theorem ct_app {b r : List UInt8} (hb : Eol b) : (ctL 10 (b ++ r)).dropLast = (ctL 10 b).dropLast ++ (ctL 10 r).dropLast := by
  rcases hb with rfl | ⟨p, rfl⟩
  · rfl
  · have h1 : ctL 10 (p ++ [10] ++ r) = ctL 10 p ++ ctL 10 r := by
      rw [List.append_assoc]; exact ctA_app 10 p [] r
    have h2 : ctL 10 (p ++ [10]) = ctL 10 p ++ [[]] := ctA_app 10 p [] []
    have h3 : ctL 10 r ≠ [] := by
      have := (ctA_len 10 r []).2
      intro e; unfold ctL at e; rw [e] at this; simp at this
    rw [h1, h2, List.dropLast_append_of_ne_nil h3, List.dropLast_concat]
theorem ct_none {r : List UInt8} (h : ∀ x ∈ r, x ≠ 10) : (ctL 10 r).dropLast = [] := by
  unfold ctL; rw [ctA_none h]; rfl
theorem ct_one {q : List UInt8} (h : ∀ x ∈ q, x ≠ 10) : (ctL 10 (q ++ [10])).dropLast = [q] := by
  have h2 : ctL 10 (q ++ [10]) = ctL 10 q ++ [[]] := ctA_app 10 q [] []
  rw [h2, List.dropLast_concat]
  unfold ctL; rw [ctA_none h]; rfl
theorem cmp_lines (t : List UInt8) : (ctL 10 t).dropLast = (ctL 10 (cmpT t)).dropLast := by
  obtain ⟨r, h, hb, hr⟩ := cmp_spec t
  have h2 : (ctL 10 t).dropLast = (ctL 10 (cmpT t ++ r)).dropLast := congrArg (fun x => (ctL 10 x).dropLast) h
  rw [h2, ct_app hb, ct_none hr, List.append_nil]
theorem cmp_more (t : List UInt8) {q : List UInt8} (h : ∀ x ∈ q, x ≠ 10) : (ctL 10 (cmpT t ++ (q ++ [10]))).dropLast = (ctL 10 (cmpT t)).dropLast ++ [q] := by
  obtain ⟨r, _, hb, _⟩ := cmp_spec t
  rw [ct_app hb, ct_one h]
/-! the laws -/
theorem law_incomplete {t : List UInt8} (h : t.length ≤ 600) : exT (cmpT t) = exT t := by
  rw [exT_short h, exT_short (by have := cmp_len t; omega), cmp_lines t]
theorem exT_cmp {t q : List UInt8} (h : t.length + (q.length + 1) ≤ 600) (hq : ∀ x ∈ q, x ≠ 10) :
    exT (cmpT t ++ (q ++ [10])) = (runL (ctL 10 (cmpT t)).dropLast).2 ++ (lnW (runL (ctL 10 (cmpT t)).dropLast).1 q).2 ++ stT (lnW (runL (ctL 10 (cmpT t)).dropLast).1 q).1 := by
  have := cmp_len t
  rw [exT_short (by simp only [List.length_append, List.length_singleton]; omega), cmp_more t hq]
  unfold outL
  rw [runL_snoc]; rfl
theorem lnW_what {w : Wd} {l : List UInt8} (h : ctL 32 l = [l]) (h0 : ¬ 0 < kdL l) (h1 : l ≠ nmCalm) (h2 : l ≠ nmRing) (h3 : l ≠ nmLeases) (h4 : l ≠ nmOwner) : lnW w l = (w, tWhat ++ [10]) := by
  rw [lnW_H h]
  unfold lnH
  rw [if_neg h0, if_neg h1, if_neg h2, if_neg h3, if_neg h4]
def tUnknown : List UInt8 := [117, 110, 107, 110, 111, 119, 110]
def qOwner : List UInt8 := nmOwner ++ [32, 55]
theorem law_unknown {t : List UInt8} (h : t.length + 8 ≤ 600) :
    exT (cmpT t ++ (tUnknown ++ [10])) = (exT (cmpT t)).take ((exT (cmpT t)).length - (lstT (exT (cmpT t))).length) ++ (tWhat ++ [10]) ++ lstT (exT (cmpT t)) := by
  have hc := cmp_len t
  rw [exT_cmp (q := tUnknown) (by simp [tUnknown]; omega) (by decide), exT_short (by omega), lst_out, lnW_what (by decide) (by decide) (by decide) (by decide) (by decide) (by decide)]
  unfold outL
  rw [List.length_append, Nat.add_sub_cancel, List.take_left]
theorem law_query {t q : List UInt8} (h : t.length + (q.length + 1) ≤ 600) (hq : ∀ x ∈ q, x ≠ 10) (hw : ∀ w, (lnW w q).1 = w) : lstT (exT (cmpT t ++ (q ++ [10]))) = lstT (exT (cmpT t)) := by
  have hc := cmp_len t
  rw [exT_cmp h hq, exT_short (by omega), lst_out, lstT_st ((runL_eol _).app (lnW_eol _ _)), hw]
theorem q_ring (w : Wd) : (lnW w nmRing).1 = w := by
  have h : ctL 32 nmRing = [nmRing] := by decide
  rw [lnW_H h]
  unfold lnH
  rw [if_neg (by decide), if_neg (by decide), if_pos rfl]
theorem q_leases (w : Wd) : (lnW w nmLeases).1 = w := by
  have h : ctL 32 nmLeases = [nmLeases] := by decide
  rw [lnW_H h]
  unfold lnH
  rw [if_neg (by decide), if_neg (by decide), if_neg (by decide), if_pos rfl]
theorem q_owner (w : Wd) : (lnW w qOwner).1 = w := by
  have h : ctL 32 qOwner = [nmOwner, [55]] := by decide
  rw [lnW_H h]
  unfold lnH
  rw [if_neg (by decide), if_neg (by decide), if_neg (by decide), if_neg (by decide), if_pos rfl]
theorem st_len (w : Wd) : 13 ≤ (stT w).length := by
  have := num_pos (n := w.scan.1)
  simp only [stT, itT, scT, tItems, tScan, List.length_append, List.length_cons, List.length_nil]; omega
theorem law_lines {t : List UInt8} (h : t.length ≤ 600) : (∃ p, exT t = p ++ [10]) ∧ 13 ≤ (lstT (exT t)).length := by
  rw [exT_short h, lst_out]
  exact ⟨⟨(runL (ctL 10 t).dropLast).2 ++ (itT (runL (ctL 10 t).dropLast).1.items ++ [10] ++ scT (runL (ctL 10 t).dropLast).1.scan), by unfold outL stT; simp only [List.append_assoc]⟩, st_len _⟩
theorem outL_bd (ls : List (List UInt8)) : (outL ls).length ≤ 360 * ls.length + 2500 := by
  unfold outL
  have h1 := runL_len ls
  have h := runL_ok ls
  have h2 := flatT_len (f := it1) (k := 18) (xs := (runL ls).1.items) (fun x hx => it1_len h.2.2.2.1 hx)
  have h3 := it_len h.2.2.2.1
  have h4 : ∀ k ∈ (runL ls).1.scan.2, (sc1 k).length ≤ 9 := fun k hk => by
    have hp := h.2.2.2.2.1.2.1.1 k hk
    have := num_len (n := k) (by omega) (by omega)
    simp only [sc1, List.length_append, List.length_singleton]; omega
  have h5 := flatT_len (f := sc1) (k := 9) h4
  have h6 := h.2.2.2.2.1.2.1.len
  have h7 := h.2.2.2.2.1.1
  have h8 := num_len (n := (runL ls).1.scan.1) (by omega) (by omega)
  simp only [stT, itT, scT, tItems, tScan, List.length_append, List.length_cons, List.length_nil]
  omega
theorem ctA_piece {c : UInt8} : ∀ {l cur x : List UInt8}, x ∈ ctA c cur l → x.length ≤ cur.length + l.length
  | [], cur, x, h => by
    rw [ctA] at h; rw [List.mem_singleton.1 h]; simp
  | y :: l, cur, x, h => by
    rw [ctA] at h
    split at h
    · rcases List.mem_cons.1 h with rfl | h
      · omega
      · have := ctA_piece h; simp only [List.length_nil, List.length_cons] at *; omega
    · have := ctA_piece h; simp only [List.length_append, List.length_nil, List.length_cons] at *; omega
theorem ct_piece {c : UInt8} {l x : List UInt8} (h : x ∈ ctL c l) : x.length ≤ l.length := by
  have := ctA_piece h; simpa using this
theorem lstN_le (t : List UInt8) : ∀ i n, (lstN t i n).length ≤ t.length
  | 0, _ => Nat.le_refl _
  | i + 1, n => by
    rw [lstN]
    have h : ∀ m, (if m = 3 then t.drop (i + 1) else lstN t i m).length ≤ t.length := fun m => by
      split
      · rw [List.length_drop]; omega
      · exact lstN_le t i m
    exact h _
theorem lstT_le (t : List UInt8) : (lstT t).length ≤ t.length := lstN_le t _ _
theorem exT_bd (t : List UInt8) : (exT t).length ≤ 300000 := by
  by_cases h : 600 < t.length
  · rw [exT_long h]; decide
  · have h1 := outL_bd (ctL 10 t).dropLast
    have h2 := (ctA_len 10 t []).1
    have h3 : (ctL 10 t).dropLast.length = (ctL 10 t).length - 1 := List.length_dropLast
    have h4 : (ctL 10 t).length = (ctA 10 [] t).length := rfl
    rw [exT_short (by omega)]
    omega
open Go
theorem n0 : num 0 = [48] := by rw [num_D (by decide) (by decide)]; rfl
theorem n5 : num 5 = [53] := by rw [num_D (by decide) (by decide)]; rfl
theorem n6 : num 6 = [54] := by rw [num_D (by decide) (by decide)]; rfl
theorem n7 : num 7 = [55] := by rw [num_D (by decide) (by decide)]; rfl
theorem n10 : num 10 = [49, 48] := by rw [num_D (by decide) (by decide)]; rfl
theorem n20 : num 20 = [50, 48] := by rw [num_D (by decide) (by decide)]; rfl
theorem n35 : num 35 = [51, 53] := by rw [num_D (by decide) (by decide)]; rfl
theorem n42 : num 42 = [52, 50] := by rw [num_D (by decide) (by decide)]; rfl
theorem n50 : num 50 = [53, 48] := by rw [num_D (by decide) (by decide)]; rfl
theorem n64 : num 64 = [54, 52] := by rw [num_D (by decide) (by decide)]; rfl
theorem ndT_mk (a b c d : Int) : ndT (a, b, [c, d]) = num a ++ [32] ++ num b ++ [32] ++ num c ++ [32] ++ num d ++ [10] := rfl
theorem lnW_ev {w : Wd} {l : List UInt8} {kd a b c : Int} (hk : kdL ((ctL 32 l).headD []) = kd) (h0 : 0 < kd) (ha : numL (ctL 32 l) 1 = a) (hb : numL (ctL 32 l) 2 = b) (hc : numL (ctL 32 l) 3 = c) {w' : Wd} (hw : doW w kd a b c = w') : lnW w l = (w', []) := by
  subst hk; subst ha; subst hb; subst hc; subst hw
  exact if_pos h0
theorem lnS_eq {w w' : Wd} {o p q l : List UInt8} (h : lnW w l = (w', p)) (hq : o ++ p = q) : lnS (w, o) l = (w', q) := by
  subst hq; unfold lnS; rw [h]
def rg0 : List Nd := [(5, 50, [20, 35]), (20, 5, [35, 50]), (35, 20, [50, 5]), (50, 35, [5, 20])]
def le0 : List Ls := [(5, 5, 20), (20, 20, 20), (35, 35, 20), (50, 50, 20)]
def wA : Wd := ⟨0, rg0, le0, [], (0, []), []⟩
theorem new0 : newW ids0 = wA := by kernel_rfl
theorem wA_ok : WdOk wA := new0 ▸ new0_ok
theorem run0 (ls : List (List UInt8)) : runL ls = ls.foldl lnS (wA, []) := by unfold runL; rw [new0]
theorem exT_of {t : List UInt8} {ls : List (List UInt8)} {w : Wd} {o q : List UInt8} (h : (decide (t.length ≤ 600)) = true) (hl : (ctL 10 t).dropLast = ls) (hr : ls.foldl lnS (wA, []) = (w, o)) (hq : o ++ stT w = q) : exT t = q := by
  rw [exT_short (of_decide_eq_true h), hl]
  unfold outL
  rw [run0, hr]; exact hq
def qEmpty : List UInt8 := [105, 116, 101, 109, 115, 10, 115, 99, 97, 110, 32, 48, 10]
theorem st0 {w : Wd} (hi : w.items = []) (hs : w.scan = (0, [])) : stT w = qEmpty := by
  unfold stT itT scT; rw [hi, hs]; simp only [List.flatMap_nil, n0]; rfl
theorem ex_empty : exT [] = qEmpty := exT_of (by decide) rfl rfl (by rw [List.nil_append]; exact st0 rfl rfl)
def tPut : List UInt8 := [112, 117, 116, 32, 50, 48, 32, 55, 32, 52, 50, 10, 112, 117, 116, 32, 53, 32, 56, 32, 49, 10, 111, 119, 110, 101, 114, 32, 55, 10, 98, 101, 103, 105, 110, 10, 115, 99, 97, 110, 10]
def qPut : List UInt8 := [50, 48, 10, 105, 116, 101, 109, 115, 32, 55, 61, 52, 50, 10, 115, 99, 97, 110, 32, 54, 10]
def wB : Wd := ⟨0, rg0, le0, [(7, 42)], (0, []), []⟩
def wC : Wd := ⟨0, rg0, le0, [(7, 42)], (0, []), [7]⟩
def wD : Wd := ⟨0, rg0, le0, [(7, 42)], (6, []), [7]⟩
def p1 : List UInt8 := [112, 117, 116, 32, 50, 48, 32, 55, 32, 52, 50]
def p2 : List UInt8 := [112, 117, 116, 32, 53, 32, 56, 32, 49]
def p4 : List UInt8 := [98, 101, 103, 105, 110]
theorem st_p1 : lnW wA p1 = (wB, []) := lnW_ev (kd := 11) (a := 20) (b := 7) (c := 42) (by decide) (by decide) (by decide) (by decide) (by decide) (by rw [doW_it' (.inl rfl)]; kernel_rfl)
theorem st_p2 : lnW wB p2 = (wB, []) := lnW_ev (kd := 11) (a := 5) (b := 8) (c := 1) (by decide) (by decide) (by decide) (by decide) (by decide) (by rw [doW_it' (.inl rfl)]; kernel_rfl)
theorem lnW_own {w : Wd} {k : Int} (h : ownF w 7 = k) : lnW w qOwner = (w, num k ++ [10]) := by
  subst h
  have h : ctL 32 qOwner = [nmOwner, [55]] := by decide
  have h2 : numL [nmOwner, [55]] 1 = 7 := by decide
  rw [lnW_H h]
  unfold lnH
  rw [if_neg (by decide), if_neg (by decide), if_neg (by decide), if_neg (by decide), if_pos rfl, h2]
theorem st_p4 : lnW wB p4 = (wC, []) := lnW_ev (kd := 13) (a := -1) (b := -1) (c := -1) (by decide) (by decide) (by decide) (by decide) (by decide) (by kernel_rfl)
theorem st_p5 : lnW wC tScan = (wD, []) := lnW_ev (kd := 14) (a := -1) (b := -1) (c := -1) (by decide) (by decide) (by decide) (by decide) (by decide) (by rw [doW_scan]; kernel_rfl)
theorem ex_put : exT tPut = qPut := by
  refine exT_of (ls := [p1, p2, qOwner, p4, tScan]) (w := wD) (o := [50, 48, 10]) (by decide) (by decide) ?_ ?_
  · simp only [List.foldl_cons, List.foldl_nil]
    rw [lnS_eq st_p1 rfl, lnS_eq st_p2 rfl, lnS_eq (lnW_own (k := 20) (by kernel_rfl)) rfl, lnS_eq st_p4 rfl, lnS_eq st_p5 rfl, n20]; rfl
  · unfold stT itT scT wD
    simp only [List.flatMap_cons, List.flatMap_nil, it1, n6, n7, n42]; rfl
def tRing : List UInt8 := [106, 111, 105, 110, 32, 49, 48, 32, 53, 10, 114, 105, 110, 103, 10]
def j1 : List UInt8 := [106, 111, 105, 110, 32, 49, 48, 32, 53]
def rgE : List Nd := [(5, 50, [20, 35]), (10, 5, [20, 35]), (20, 5, [35, 50]), (35, 20, [50, 5]), (50, 35, [5, 20])]
def wE : Wd := ⟨0, rgE, le0, [], (0, []), []⟩
def qRing : List UInt8 := [53, 32, 53, 48, 32, 50, 48, 32, 51, 53, 10, 49, 48, 32, 53, 32, 50, 48, 32, 51, 53, 10, 50, 48, 32, 53, 32, 51, 53, 32, 53, 48, 10, 51, 53, 32, 50, 48, 32, 53, 48, 32, 53, 10, 53, 48, 32, 51, 53, 32, 53, 32, 50, 48, 10]
theorem st_j1 : lnW wA j1 = (wE, []) := lnW_ev (kd := 1) (a := 10) (b := 5) (c := -1) (by decide) (by decide) (by decide) (by decide) (by decide) (by
  have hj : joinR wA.ring 10 5 = some rgE := by kernel_rfl
  have ho : rgO wA.ring 1 10 5 = (rgE, true) := by
    show tk wA.ring (Pt 10 ∧ Pt 5) (joinR wA.ring 10 5) = _
    rw [hj]; exact tk_some ⟨wA_ok.2.1, by decide, by decide⟩
  show rgW wA 1 10 5 = wE
  unfold rgW
  rw [if_pos (by rw [ho]), ho]; rfl)
theorem lnW_ring (w : Wd) : lnW w nmRing = (w, rgT w.ring) := by
  have h : ctL 32 nmRing = [nmRing] := by decide
  rw [lnW_H h]
  unfold lnH
  rw [if_neg (by decide), if_neg (by decide), if_pos rfl]
theorem rgT_E : rgT wE.ring = qRing := by
  show rgT rgE = _
  simp only [rgT, rgE, List.flatMap_cons, List.flatMap_nil, ndT_mk, n5, n10, n20, n35, n50]; rfl
theorem ex_ring : exT tRing = qRing ++ qEmpty := by
  refine exT_of (ls := [j1, nmRing]) (w := wE) (o := qRing) (by decide) (by decide) ?_ ?_
  · simp only [List.foldl_cons, List.foldl_nil]
    rw [lnS_eq st_j1 rfl, lnS_eq (lnW_ring wE) rfl, rgT_E]; rfl
  · rw [st0 rfl rfl]
def tCalm : List UInt8 := [106, 111, 105, 110, 32, 49, 48, 32, 53, 10, 99, 97, 108, 109, 10, 114, 105, 110, 103, 10, 111, 119, 110, 101, 114, 32, 55, 10]
def rgG : List Nd := [(5, 50, [10, 20]), (10, 5, [20, 35]), (20, 10, [35, 50]), (35, 20, [50, 5]), (50, 35, [5, 10])]
def wG : Wd := ⟨21, rgG, [(5, 5, 41), (10, 10, 41), (20, 20, 41), (35, 35, 41), (50, 50, 41)], [], (0, []), []⟩
def qCalm : List UInt8 := [53, 32, 53, 48, 32, 49, 48, 32, 50, 48, 10, 49, 48, 32, 53, 32, 50, 48, 32, 51, 53, 10, 50, 48, 32, 49, 48, 32, 51, 53, 32, 53, 48, 10, 51, 53, 32, 50, 48, 32, 53, 48, 32, 53, 10, 53, 48, 32, 51, 53, 32, 53, 32, 49, 48, 10, 49, 48, 10]
theorem st_calm : lnW wE nmCalm = (wG, []) := by
  have h : ctL 32 nmCalm = [nmCalm] := by decide
  have hok : WdOk wE := by have := lnW_ok wA_ok j1; rwa [st_j1] at this
  rw [lnW_H h]
  unfold lnH
  rw [if_neg (by decide), if_pos rfl, calF_yes hok]
  have : calW wE = wG := by kernel_rfl
  rw [this]
theorem rgT_G : rgT wG.ring ++ [49, 48, 10] = qCalm := by
  show rgT rgG ++ _ = _
  simp only [rgT, rgG, List.flatMap_cons, List.flatMap_nil, ndT_mk, n5, n10, n20, n35, n50]; rfl
theorem ex_calm : exT tCalm = qCalm ++ qEmpty := by
  refine exT_of (ls := [j1, nmCalm, nmRing, qOwner]) (w := wG) (o := qCalm) (by decide) (by decide) ?_ ?_
  · simp only [List.foldl_cons, List.foldl_nil]
    rw [lnS_eq st_j1 rfl, lnS_eq st_calm rfl, lnS_eq (lnW_ring wG) rfl, lnS_eq (lnW_own (k := 10) (by kernel_rfl)) rfl, ← rgT_G, n10]; rfl
  · rw [st0 rfl rfl]
def tScans : List UInt8 := [98, 101, 103, 105, 110, 10, 115, 99, 97, 110, 10, 115, 99, 97, 110, 10, 115, 99, 97, 110, 10, 115, 99, 97, 110, 10, 115, 99, 97, 110, 10]
def wS (n : Int) : Wd := ⟨0, rg0, le0, [], (n, []), []⟩
def qScans : List UInt8 := [105, 116, 101, 109, 115, 10, 115, 99, 97, 110, 32, 54, 52, 10]
theorem sc_beg : lnW wA p4 = (wS 0, []) := lnW_ev (kd := 13) (a := -1) (b := -1) (c := -1) (by decide) (by decide) (by decide) (by decide) (by decide) (by kernel_rfl)
theorem sc_st {n m : Int} (h : scW (wS n) = wS m) : lnW (wS n) tScan = (wS m, []) := lnW_ev (kd := 14) (a := -1) (b := -1) (c := -1) (by decide) (by decide) (by decide) (by decide) (by decide) (by rw [doW_scan]; exact h)
theorem ex_scans : exT tScans = qScans := by
  refine exT_of (ls := [p4, tScan, tScan, tScan, tScan, tScan]) (w := wS 64) (o := []) (by decide) (by decide) ?_ ?_
  · simp only [List.foldl_cons, List.foldl_nil]
    rw [lnS_eq sc_beg rfl, lnS_eq (sc_st (m := 6) (by kernel_rfl)) rfl, lnS_eq (sc_st (m := 21) (by kernel_rfl)) rfl, lnS_eq (sc_st (m := 36) (by kernel_rfl)) rfl, lnS_eq (sc_st (m := 51) (by kernel_rfl)) rfl, lnS_eq (sc_st (m := 64) (by kernel_rfl)) rfl]; rfl
  · unfold stT itT scT wS
    simp only [List.flatMap_nil, n64]; rfl
end Go.Ro
