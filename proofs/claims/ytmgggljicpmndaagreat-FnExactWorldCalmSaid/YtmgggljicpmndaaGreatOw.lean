/- What a slice of any elements holds at the start of a row. A slice of slices that the walk owns, inner ones and all. Conditions: those that each row states. -/
import Derived.Test.YtmgggljicpmndaaGreatXr
import Derived.Test.YtmgggljicpmndaaGreatSs
import Derived.Deep.Slices
import Derived.Test.YtmgggljicpmndaaGreatMx
namespace Go.Ro
open Go Go.ChangeShapes Go.WideShapes Go.Deep
theorem choose_list {α : Type} {p : Nat → α → Prop} : ∀ n, (∀ i, i < n → ∃ x, p i x) → ∃ l : List α, l.length = n ∧ ∀ i x, l[i]? = some x → p i x
  | 0, _ => ⟨[], rfl, fun i x h => by simp at h⟩
  | n + 1, h => by
    obtain ⟨l, h1, h2⟩ := choose_list n (fun i hi => h i (by omega))
    obtain ⟨x, hx⟩ := h n (by omega)
    refine ⟨l ++ [x], by simp [h1], fun i y hi => ?_⟩
    rcases Nat.lt_or_ge i n with hl | hl
    · rw [List.getElem?_append_left (by omega)] at hi
      exact h2 i y hi
    · have : i < (l ++ [x]).length := (List.getElem?_eq_some_iff.1 hi).1
      have hin : i = n := by simp [h1] at this; omega
      subst hin
      rw [← h1, List.getElem?_append_right (Nat.le_refl _), Nat.sub_self] at hi
      obtain rfl := Option.some.inj hi
      exact hx
section
variable {H : Type} {enc : TypeId × Value → H} {P : Program} {w : World} {base : Nat} {spare : Nat → Bool} {held : Bool}
theorem read_sl {α : Type} {E : View → List Value → α → Prop} {t e : TypeId} {sz fuel : Nat} {v : Value} {x : DataW H × List MemPlace} (ht : P.underlying t = some (.slice e)) (hc : P.cellsOf e = sz) (hsz : 1 ≤ sz)
    (hel : ∀ fuel cs x, cs.length = sz → DataW.trod enc P w base spare held fuel e cs = some x → ∃ y, E (hvw w) cs y) (h : DataW.trod enc P w base spare held fuel t [v] = some x) :
    ∃ ys, SlR sz E (hvw w) v ys := by
  rcases open_slice ht h with ⟨hcs, _⟩ | ⟨a, len, cap, m, n, D, Pl, hcs, _, hl, hm, hmm, _, hx⟩
  · obtain rfl : v = .slice none 0 0 := by simpa using hcs
    exact ⟨[], nil_row⟩
  · obtain rfl : v = .slice (some a) len cap := by simpa using hcs
    have hlm : len ≤ m := by rw [hmm]; split <;> omega
    rw [hc] at hx
    obtain ⟨ys, h1, h2⟩ := choose_list (p := fun i y => ∃ cs, cs.length = sz ∧ (∀ j c, cs[j]? = some c → w.cell? (a.add (i * sz + j)) = some c) ∧ E (hvw w) cs y) len (fun i hi => by
      obtain ⟨cs, g1, g2⟩ := hx i (by omega)
      obtain ⟨_, g3, g4⟩ := World.cells?_some g1
      obtain ⟨y, hy⟩ := hel n cs _ g3 g2
      refine ⟨y, cs, g3, fun j c hj => ?_, hy⟩
      have hlt := (List.getElem?_eq_some_iff.1 hj).1
      have := g4 j (by omega)
      rw [hj, Addr.add_add] at this
      exact this)
    have hs : 0 < len → a = ⟨a.block, a.off, none⟩ := by
      intro h0
      obtain ⟨cs, g1, g2⟩ := hx 0 (by omega)
      obtain ⟨_, g3, g4⟩ := World.cells?_some g1
      have h1 := g4 0 (by omega)
      have he : (a.add (0 * sz)).add 0 = a := by cases a with | mk b o s => cases s <;> simp [Addr.add]
      rw [he, List.getElem?_eq_getElem (by omega)] at h1
      unfold World.cell? at h1
      cases hsp : a.spot with
      | none => cases a; simp only at hsp; subst hsp; rfl
      | some s =>
        cases hh : w.heap[a.block]? with
        | none => rw [hh] at h1; cases h1
        | some o => rw [hh] at h1; cases o <;> simp [hsp] at h1
    refine ⟨ys, ⟨some a, cap, by rw [h1], by omega, hm, ?_⟩, fun i y hi => ?_⟩
    · rcases Nat.eq_zero_or_pos len with h | h
      · left; omega
      · right; exact ⟨a.block, a.off, by rw [← hs h]⟩
    · obtain ⟨cs, g1, g2, g3⟩ := h2 i y hi
      refine ⟨cs, g1, fun j c hj => ?_, g3⟩
      have hlt := (List.getElem?_eq_some_iff.1 hi).1
      have hh := g2 j c hj
      have hadd : a.add (i * sz + j) = elA (.slice (some a) len cap) (i * sz + j) := by
        rw [hs (by omega)]; unfold Addr.add elA
        split
        · rename_i h0; rw [h0]; rfl
        · rfl
      rw [hadd] at hh
      exact hh
theorem read_ints {t e : TypeId} {fuel : Nat} {v : Value} {x : DataW H × List MemPlace} (ht : P.underlying t = some (.slice e)) (he : P.underlying e = some (.int .i64)) (hc : P.cellsOf e = 1)
    (h : DataW.trod enc P w base (fun _ => true) held fuel t [v] = some x) : ∃ zs, IntS (hvw w) v zs := by
  rcases open_ints ht he hc h with ⟨hcs, _⟩ | ⟨x, l, c, zs, hcs, _, hl, hm, hz, _, hcell, hwz⟩
  · obtain rfl : v = .slice none 0 0 := by simpa using hcs
    exact ⟨[], nil_row⟩
  · obtain rfl : v = .slice (some x) l c := by simpa using hcs
    exact ⟨_, cell_row hl hm (by simpa using hz) hcell⟩
end
open Go
theorem count_sum {α : Type} [DecidableEq α] (a : α) : ∀ l : List α, l.count a = (l.map (fun x => if x = a then 1 else 0)).sum
  | [] => rfl
  | x :: l => by
    simp only [List.count_cons, List.map_cons, List.sum_cons, count_sum a l, beq_iff_eq]
    omega
theorem K.cnt {e w : World} {G : View} {L L' : Own} (hK : K e w G L) (h : ∀ f : Nat × Obj → Nat, (L'.map f).sum = (L.map f).sum) : K e w G L' := by
  classical
  refine hK.perm ((@List.perm_iff_count (Nat × Obj) instBEqOfDecidableEq inferInstance _ _).2 fun a => ?_)
  have := h (fun x => if x = a then 1 else 0)
  have h1 := count_sum a L
  have h2 := count_sum a L'
  exact h2.trans (this.trans h1.symm)
def OSS (t : TypeId) (us : List (Value × List Int × Own)) : Prop := ∀ p ∈ us, OS 1 t p.1 p.2.1.length (ints p.2.1) p.2.2
def vals (us : List (Value × List Int × Own)) : List Value := us.map (·.1)
def flat (us : List (Value × List Int × Own)) : Own := us.flatMap (·.2.2)
theorem K.reo {e w : World} {G : View} {L L' : Own} (hK : K e w G L) (h : ∀ f : Nat × Obj → Nat, (L'.map f).sum = (L.map f).sum := by intro f; simp only [List.map_append, List.map_cons, List.map_nil, List.sum_append, List.sum_cons, List.sum_nil]; omega) : K e w G L' := hK.cnt h
theorem om {p : Prop} (h : p := by first | omega | (simp only; omega)) : p := h
theorem kr {p : Prop} (h : p := by kernel_rfl) : p := h
theorem OSS.nil {t : TypeId} : OSS t [] := fun p hp => absurd hp (by simp)
theorem OSS.snoc {t : TypeId} {us : List (Value × List Int × Own)} (h : OSS t us) {v : Value} {xs : List Int} {A : Own} (ho : OS 1 t v xs.length (ints xs) A) : OSS t (us ++ [(v, xs, A)]) := by
  intro p hp
  rcases List.mem_append.1 hp with hp | hp
  · exact h p hp
  · rw [List.mem_singleton.1 hp]; exact ho
theorem flat_snoc (us : List (Value × List Int × Own)) (v : Value) (xs : List Int) (A : Own) : flat (us ++ [(v, xs, A)]) = flat us ++ A := by simp [flat]
theorem K.pubF {e w : World} {L : Own} {t : TypeId} : ∀ (us : List (Value × List Int × Own)) {G : View}, OSS t us → K e w G (flat us ++ L) → ∃ G', VLe G G' ∧ (∀ p ∈ us, IntS G' p.1 p.2.1) ∧ K e w G' L
  | [], G, _, hK => ⟨G, VLe.refl _, fun p hp => absurd hp (by simp), hK⟩
  | (v, xs, A) :: us, G, h, hK => by
    have hK' : K e w G (A ++ (flat us ++ L)) := by simpa [flat, List.append_assoc] using hK
    obtain ⟨G1, hG1, hv, hK1⟩ := hK'.pubO (h _ (List.mem_cons_self ..))
    obtain ⟨G2, hG2, hus, hK2⟩ := K.pubF us (fun p hp => h p (List.mem_cons_of_mem _ hp)) hK1
    refine ⟨G2, hG1.trans hG2, fun p hp => ?_, hK2⟩
    rcases List.mem_cons.1 hp with rfl | hp
    · exact hv.mono hG2
    · exact hus p hp
section
variable {P : Program} {n : Nat} {Q : Po} {f : Sl} {w : World} {ops : Array Oper} {rest : List Oper}
  {dst : Option Nat} {ty : TypeId} {pos : String} {af : Array Edge} {e : World} {G : View} {L A : Own}
theorem osSet {T i m t sz by' : Nat} {x y : Operand} {v u z : Value} {cs : List Value} (hK : K e w G (A ++ L)) (ho : OS 1 t v m cs A) (him : i < m) (hi : Inf P T z sz by') (hs : Nat.beq sz 1 = true)
    (hp : ev n f x = .pointer (some (elA v i))) (hv : ev n f y = u) (h1 : one u = true)
    (h : ∀ A' w1, OS 1 t v m (cs.set i u) A' → K e w1 G (A' ++ L) → WL P n ops Q rest (updO f dst undef) w1) :
    WL P n ops Q (⟨dst, .store T x y, ty, pos, af, none⟩ :: rest) f w := by
  obtain ⟨hl, ⟨_, h0, _⟩ | ⟨b, cap, cur, rfl, rfl, g1, g2, g3, g4⟩⟩ := ho
  · omega
  · have hr : (Obj.cells cur t (0, 0)) = row cur.toList t := by simp [row]
    rw [hr] at hK
    refine soi hK hi hs 0 rfl (by rw [hp]; simp [elA]) hv h1 (by simp; omega) fun w1 hK1 => h [(b, .cells (cur.toList.set i u).toArray t (0, 0))] w1 ⟨by rw [List.length_set]; exact hl, .inr ⟨b, cap, (cur.toList.set i u).toArray, rfl, rfl, g1, g2, by simpa using g3, ?_⟩⟩ hK1
    rw [← g4]
    rw [List.take_set]
end
theorem K.vle {e w : World} {G G' : View} {L : Own} (hK : K e w G' L) (hG : VLe G G') : K e w G L :=
  ⟨hK.tape, hK.os, hK.out, fun b o h => hK.view b o (hG b o h), hK.own, (fun b o h => by
    cases hb : G b with
    | none => rfl
    | some o' => have := hG b o' hb; rw [hK.sep b o h] at this; cases this), hK.nodup⟩
theorem SS.list {α : Type} {E : View → Value → α → Prop} {G : View} {v : Value} {xs : List α} (h : SS E G v xs) :
    ∃ us : List Value, us.length = xs.length ∧ ∀ (i : Nat) (u : Value), us[i]? = some u → ∃ x, xs[i]? = some x ∧ cellV G (elA v i) = some u ∧ E G u x := by
  obtain ⟨us, h1, h2⟩ := choose_list (p := fun i u => ∃ x, xs[i]? = some x ∧ cellV G (elA v i) = some u ∧ E G u x) xs.length (fun i hi => by
    obtain ⟨u, hu, hx⟩ := h.at hi
    exact ⟨u, xs[i], List.getElem?_eq_getElem hi, hu, hx⟩)
  exact ⟨us, h1, h2⟩
end Go.Ro
