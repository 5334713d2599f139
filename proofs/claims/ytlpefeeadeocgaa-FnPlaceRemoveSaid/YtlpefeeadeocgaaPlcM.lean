/- Tables of tokens: removing a node moves only its keys (plain). Conditions: those that each row states. -/

namespace Go.Ro

def tkn (n i : Int) : Int := (37 * n + 23 * i + 7 * i * i) % 64
def hasT (nw : Int × Int) (p : Int) : Bool := (List.range nw.2.toNat).any fun i => tkn nw.1 i == p
def ownT (ns : List (Int × Int)) (p : Int) : Option Int := (ns.find? (hasT · p)).map (·.1)
def ps64 : List Int := (List.range 64).map fun (i : Nat) => (i : Int)
def tblL (l : List Int) (f : Int → Option Int) : List (Int × Int) := l.filterMap fun p => (f p).map fun m => (p, m)
def tbl (ns : List (Int × Int)) : List (Int × Int) := tblL ps64 (ownT ns)
/-- the owner of a key in a table -/
def ownI (t : List (Int × Int)) (key : Int) : Int :=
  (((t.find? fun x => decide (key ≤ x.1)).map (·.2)).or (t.head?.map (·.2))).getD 0

theorem tbl_find (f : Int → Option Int) (key : Int) (l : List Int) :
    ((tblL l f).find? fun x => decide (key ≤ x.1)).map (·.2) = (l.filter fun p => decide (key ≤ p)).findSome? f := by
  induction l with
  | nil => rfl
  | cons p l ih =>
    unfold tblL at ih ⊢
    rw [List.filterMap_cons]
    cases hf : f p with
    | none =>
      simp only [Option.map_none]
      rw [ih, List.filter_cons]
      split
      · rw [List.findSome?_cons, hf]
      · rfl
    | some m =>
      simp only [Option.map_some]
      rw [List.find?_cons, List.filter_cons]
      by_cases h : key ≤ p
      · simp [h, hf]
      · simp only [h, decide_false, Bool.false_eq_true, if_false]
        exact ih
theorem tbl_head (f : Int → Option Int) (l : List Int) : (tblL l f).head?.map (·.2) = l.findSome? f := by
  induction l with
  | nil => rfl
  | cons p l ih =>
    unfold tblL at ih ⊢
    rw [List.filterMap_cons, List.findSome?_cons]
    cases hf : f p with
    | none => simpa using ih
    | some m => simp
def cyc (key : Int) : List Int := (ps64.filter fun p => decide (key ≤ p)) ++ ps64
theorem ownI_eq (f : Int → Option Int) (key : Int) : ownI (tblL ps64 f) key = ((cyc key).findSome? f).getD 0 := by
  unfold ownI cyc
  rw [tbl_find, tbl_head, List.findSome?_append]

theorem fs_same {f g : Int → Option Int} {nk m : Int} (ha : ∀ p m, f p = some m → m ≠ nk → g p = some m) (hb : ∀ p, f p = none → g p = none) (hm : m ≠ nk) :
    ∀ l : List Int, l.findSome? f = some m → l.findSome? g = some m := by
  intro l
  induction l with
  | nil => intro h; exact h
  | cons p l ih =>
    intro h
    rw [List.findSome?_cons] at h ⊢
    cases hf : f p with
    | none => rw [hf] at h; rw [hb p hf]; exact ih h
    | some x =>
      rw [hf] at h
      have : x = m := Option.some.inj h
      subst this
      rw [ha p x hf hm]
theorem fs_mem {f : Int → Option Int} {m : Int} : ∀ l : List Int, l.findSome? f = some m → ∃ p ∈ l, f p = some m := by
  intro l h
  obtain ⟨p, hp, h⟩ := List.exists_of_findSome?_eq_some h
  exact ⟨p, hp, h⟩

theorem er_a {q : Int × Int → Bool} {x : Int × Int} : ∀ (ns : List (Int × Int)) (k : Nat) (hk : k < ns.length), ns.find? q = some x → x.1 ≠ ns[k].1 → (ns.eraseIdx k).find? q = some x := by
  intro ns
  induction ns with
  | nil => intro k hk; exact absurd hk (by simp)
  | cons y t ih =>
    intro k hk h hx
    rw [List.find?_cons] at h
    cases k with
    | zero =>
      cases hy : q y with
      | true => rw [hy] at h; exact absurd (by rw [← Option.some.inj h]; rfl) hx
      | false => rw [hy] at h; simpa using h
    | succ k =>
      rw [List.eraseIdx_cons_succ, List.find?_cons]
      cases hy : q y with
      | true => rw [hy] at h; exact h
      | false => rw [hy] at h; exact ih k (by simpa using hk) h hx
theorem er_b {q : Int × Int → Bool} {ns : List (Int × Int)} {k : Nat} (h : ns.find? q = none) : (ns.eraseIdx k).find? q = none := by
  rw [List.find?_eq_none] at h ⊢
  exact fun x hx => h x (List.mem_of_mem_eraseIdx hx)
theorem er_c : ∀ (ns : List (Int × Int)) (k : Nat) (hk : k < ns.length), (ns.map (·.1)).Nodup → ∀ x ∈ ns.eraseIdx k, x.1 ≠ ns[k].1 := by
  intro ns
  induction ns with
  | nil => intro k hk; exact absurd hk (by simp)
  | cons y t ih =>
    intro k hk hn x hx
    rw [List.map_cons, List.nodup_cons] at hn
    cases k with
    | zero =>
      intro h
      exact hn.1 (by rw [← show x.1 = y.1 from h]; exact List.mem_map.2 ⟨x, by simpa using hx, rfl⟩)
    | succ k =>
      rw [List.eraseIdx_cons_succ] at hx
      rcases List.mem_cons.1 hx with rfl | hx
      · intro h
        exact hn.1 (by rw [h]; exact List.mem_map.2 ⟨_, List.getElem_mem (by simpa using hk), rfl⟩)
      · exact ih k (by simpa using hk) hn.2 x hx

theorem tbl_some {f : Int → Option Int} (h : tblL ps64 f ≠ []) (key : Int) : ∃ m, (cyc key).findSome? f = some m := by
  cases hx : (cyc key).findSome? f with
  | some m => exact ⟨m, rfl⟩
  | none =>
    exfalso; apply h
    rw [List.findSome?_eq_none_iff] at hx
    unfold tblL
    rw [List.filterMap_eq_nil_iff]
    intro p hp
    rw [hx p (List.mem_append_right _ hp)]; rfl

/-- the keys that move when a node is removed are those that it held -/
theorem tbl_remove {ns : List (Int × Int)} {k : Nat} (hk : k < ns.length) (hn : (ns.map (·.1)).Nodup) (ho : tbl ns ≠ []) (hx : tbl (ns.eraseIdx k) ≠ []) (key : Int) :
    ownI (tbl ns) key ≠ ownI (tbl (ns.eraseIdx k)) key ↔ ownI (tbl ns) key = ns[k].1 := by
  obtain ⟨m, hm⟩ := tbl_some ho key
  obtain ⟨m', hm'⟩ := tbl_some hx key
  have e : ownI (tbl ns) key = m := by unfold tbl; rw [ownI_eq, hm]; rfl
  have e' : ownI (tbl (ns.eraseIdx k)) key = m' := by unfold tbl; rw [ownI_eq, hm']; rfl
  have ha : ∀ p m, ownT ns p = some m → m ≠ ns[k].1 → ownT (ns.eraseIdx k) p = some m := by
    intro p m h hne
    unfold ownT at h ⊢
    obtain ⟨x, hx, rfl⟩ := Option.map_eq_some_iff.1 h
    rw [er_a ns k hk hx hne]; rfl
  have hb : ∀ p, ownT ns p = none → ownT (ns.eraseIdx k) p = none := by
    intro p h
    unfold ownT at h ⊢
    rw [er_b (Option.map_eq_none_iff.1 h)]; rfl
  have hc : ∀ p m, ownT (ns.eraseIdx k) p = some m → m ≠ ns[k].1 := by
    intro p m h
    unfold ownT at h
    obtain ⟨x, hx, rfl⟩ := Option.map_eq_some_iff.1 h
    exact er_c ns k hk hn x (List.mem_of_find?_eq_some hx)
  rw [e, e']
  constructor
  · intro h
    refine Classical.byContradiction fun hne => h ?_
    exact Option.some.inj ((fs_same ha hb hne _ hm).symm.trans hm')
  · rintro rfl h
    obtain ⟨p, _, hp⟩ := fs_mem _ hm'
    exact hc p m' hp h.symm
theorem asc_ext : ∀ (a b : List Int), a.Pairwise (· < ·) → b.Pairwise (· < ·) → (∀ x, x ∈ a ↔ x ∈ b) → a = b := by
  intro a
  induction a with
  | nil =>
    intro b _ _ h
    cases b with
    | nil => rfl
    | cons y b => exact absurd ((h y).2 (List.mem_cons_self ..)) (by simp)
  | cons x a ih =>
    intro b ha hb h
    cases b with
    | nil => exact absurd ((h x).1 (List.mem_cons_self ..)) (by simp)
    | cons y b =>
      rw [List.pairwise_cons] at ha hb
      have e : x = y := by
        rcases List.mem_cons.1 ((h x).1 (List.mem_cons_self ..)) with h1 | h1
        · exact h1
        · rcases List.mem_cons.1 ((h y).2 (List.mem_cons_self ..)) with h2 | h2
          · exact h2.symm
          · have := ha.1 y h2; have := hb.1 x h1; omega
      subst e
      rw [ih b ha.2 hb.2 fun z => ⟨fun hz => ?_, fun hz => ?_⟩]
      · rcases List.mem_cons.1 ((h z).1 (List.mem_cons_of_mem _ hz)) with h1 | h1
        · have := ha.1 z hz; omega
        · exact h1
      · rcases List.mem_cons.1 ((h z).2 (List.mem_cons_of_mem _ hz)) with h1 | h1
        · have := hb.1 z hz; omega
        · exact h1
theorem ps64_mem {p : Int} : p ∈ ps64 ↔ 0 ≤ p ∧ p < 64 := by
  unfold ps64
  rw [List.mem_map]
  constructor
  · rintro ⟨i, hi, rfl⟩; have := List.mem_range.1 hi; omega
  · rintro ⟨h0, h1⟩; exact ⟨p.toNat, List.mem_range.2 (by omega), by omega⟩
theorem ps64_asc : ps64.Pairwise (· < ·) := by unfold ps64; decide
theorem tbl_pos {l : List Int} {f : Int → Option Int} : (tblL l f).map (·.1) = l.filter fun p => (f p).isSome := by
  induction l with
  | nil => rfl
  | cons p l ih =>
    unfold tblL at ih ⊢
    rw [List.filterMap_cons, List.filter_cons]
    cases hf : f p with
    | none => simpa using ih
    | some m => simpa using ih
theorem tbl_asc (f : Int → Option Int) : ((tblL ps64 f).map (·.1)).Pairwise (· < ·) := by
  rw [tbl_pos]; exact ps64_asc.sublist List.filter_sublist
theorem tbl_mem {l : List Int} {f : Int → Option Int} {x : Int × Int} : x ∈ tblL l f ↔ x.1 ∈ l ∧ f x.1 = some x.2 := by
  unfold tblL
  rw [List.mem_filterMap]
  constructor
  · rintro ⟨p, hp, h⟩
    obtain ⟨m, hm, rfl⟩ := Option.map_eq_some_iff.1 h
    exact ⟨hp, hm⟩
  · rintro ⟨hp, h⟩
    exact ⟨x.1, hp, by rw [h]; rfl⟩
theorem tbl_self {l : List Int} {f : Int → Option Int} : ((tblL l f).map (·.1)).map (fun p => (p, (f p).getD 0)) = tblL l f := by
  rw [List.map_map]
  refine (List.map_congr_left fun x hx => ?_).trans (List.map_id _)
  have h := (tbl_mem.1 hx).2
  show (x.1, (f x.1).getD 0) = x
  rw [h]; rfl
/-- the sorted keys of a map that tells f, each with what it tells -/
theorem tbl_sorted {f : Int → Option Int} {ks : List Int} (ha : ks.Pairwise (· < ·)) (hm : ∀ p, p ∈ ks ↔ (f p).isSome = true) (hr : ∀ p, (f p).isSome = true → 0 ≤ p ∧ p < 64) :
    ks.map (fun p => (p, (f p).getD 0)) = tblL ps64 f := by
  have e : ks = (tblL ps64 f).map (·.1) := asc_ext _ _ ha (tbl_asc f) fun p => by
    rw [tbl_pos, List.mem_filter, hm, ps64_mem]
    exact ⟨fun h => ⟨hr p h, h⟩, fun h => h.2⟩
  rw [e, tbl_self]
theorem tkn_rg (n i : Int) : 0 ≤ tkn n i ∧ tkn n i < 64 := by unfold tkn; omega
theorem hasT_iff {nw : Int × Int} {p : Int} : hasT nw p = true ↔ ∃ i : Nat, (i : Int) < nw.2 ∧ tkn nw.1 i = p := by
  unfold hasT
  rw [List.any_eq_true]
  constructor
  · rintro ⟨i, hi, h⟩
    exact ⟨i, by have := List.mem_range.1 hi; omega, by simpa using h⟩
  · rintro ⟨i, hi, h⟩
    exact ⟨i, List.mem_range.2 (by omega), by simpa using h⟩
theorem ownT_rg {ns : List (Int × Int)} {p : Int} (h : (ownT ns p).isSome = true) : 0 ≤ p ∧ p < 64 := by
  obtain ⟨m, hm⟩ := Option.isSome_iff_exists.1 h
  unfold ownT at hm
  obtain ⟨x, hx, _⟩ := Option.map_eq_some_iff.1 hm
  have := List.find?_some hx
  obtain ⟨i, _, rfl⟩ := hasT_iff.1 this
  exact tkn_rg _ _
theorem ownT_mem {ns : List (Int × Int)} {p m : Int} (h : ownT ns p = some m) : m ∈ ns.map (·.1) := by
  unfold ownT at h
  obtain ⟨x, hx, rfl⟩ := Option.map_eq_some_iff.1 h
  exact List.mem_map.2 ⟨x, List.mem_of_find?_eq_some hx, rfl⟩
theorem tbl_ne {ns : List (Int × Int)} (h : ns ≠ []) (hw : ∀ x ∈ ns, 1 ≤ x.2) : tbl ns ≠ [] := by
  cases ns with
  | nil => exact absurd rfl h
  | cons x t =>
    intro he
    have hx : hasT x (tkn x.1 0) = true := hasT_iff.2 ⟨0, by have := hw x (List.mem_cons_self ..); omega, rfl⟩
    have : (tkn x.1 0, x.1) ∈ tbl (x :: t) := tbl_mem.2 ⟨ps64_mem.2 (tkn_rg _ _), by unfold ownT; rw [List.find?_cons, hx]; rfl⟩
    rw [he] at this
    exact absurd this (by simp)
/-- one more node at the end of the list: what was not taken is its -/
theorem ownT_snoc (ns : List (Int × Int)) (x : Int × Int) (p : Int) : ownT (ns ++ [x]) p = (ownT ns p).or (if hasT x p then some x.1 else none) := by
  unfold ownT
  rw [List.find?_append]
  cases ns.find? (hasT · p) with
  | some y => rfl
  | none =>
    show ([x].find? (hasT · p)).map (·.1) = _
    cases hx : hasT x p <;> simp [hx]
theorem moved_len {t u : List (Int × Int)} {nk : Int} (h : ∀ key, ownI t key ≠ ownI u key ↔ ownI t key = nk) (ks : List Int) :
    ks.filter (fun key => decide (ownI t key ≠ ownI u key)) = ks.filter fun key => decide (ownI t key = nk) :=
  List.filter_congr fun key _ => decide_eq_decide.2 (h key)
end Go.Ro
