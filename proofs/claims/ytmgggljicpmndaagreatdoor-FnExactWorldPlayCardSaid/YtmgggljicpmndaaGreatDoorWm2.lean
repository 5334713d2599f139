/- Insertions into and deletions from slices of one's own, plain. Two error variables of a package; what operations on leases return. Worlds whose items are the walk's own: read whole; items put and erased, plain. Conditions: those that each row states. -/
import Derived.Test.YtmgggljicpmndaaGreatDoorBsl
import Derived.Test.YtmgggljicpmndaaGreatDoorOx
import Derived.Test.YtmgggljicpmndaaGreatDoorRgU
namespace Go.Ro
open Go
section
variable {P : Program} {n : Nat} {f : Sl} {w : World} {dst : Option Tmp} {ty : TypeId} {pos : String} {af : Array Edge} {g : Option (Nat × Bool)}
theorem capS {x : Operand} {T ty' E : TypeId} {a : Option Addr} {m c : Nat} (hT : P.underlying T = some (.slice E)) (hx : ev n f x = .slice a m c) :
    St P n ⟨dst, .call ⟨.builtin .cap, #[x], #[T]⟩, ty', pos, af, g⟩ f w (.int .i64 (c : Int)) w := by
  unfold St execOp
  simp [resolve, invoke, builtin, Builtin.cap_, hx, run_underlying hT, goInt]
end
section
variable {P : Program} {n : Nat} {f : Sl} {w : World} {dst : Option Tmp} {ty : TypeId} {pos : String} {af : Array Edge} {g : Option (Nat × Bool)}
theorem addC (b o j : Nat) : (⟨b, o, none⟩ : Addr).add j = ⟨b, o + j, none⟩ := by unfold Addr.add; split <;> simp_all
theorem slHiC {T E' sz b m c h : Nat} {x y : Operand} (hT : P.underlying T = some (.slice E')) (hE : (P.info? E').map (·.size) = some sz) (hx : ev n f x = .slice (some ⟨b, 0, none⟩) m c)
    (hy : ev n f y = .int .i64 (h : Int)) (h2 : h ≤ c) : St P n ⟨dst, .slice T x none (some y) none, ty, pos, af, g⟩ f w (.slice (some ⟨b, 0, none⟩) h c) w := by
  have := slC (P := P) (n := n) (f := f) (w := w) (dst := dst) (ty := ty) (pos := pos) (af := af) (g := g) (lo := none) (hi := some y) (mo := none) (l := 0) (h := h) (mx := c) hT hE hx (.inl ⟨rfl, rfl⟩) (.inr (by rw [Option.map_some, hy])) (.inl ⟨rfl, rfl⟩) (Nat.zero_le _) h2 (Nat.le_refl _)
  simpa [addC] using this
theorem slLoC {T E' sz b m c l : Nat} {x y : Operand} (hT : P.underlying T = some (.slice E')) (hE : (P.info? E').map (·.size) = some sz) (hx : ev n f x = .slice (some ⟨b, 0, none⟩) m c)
    (hy : ev n f y = .int .i64 (l : Int)) (h1 : l ≤ m) (h2 : m ≤ c) (h3 : l < c) : St P n ⟨dst, .slice T x (some y) none none, ty, pos, af, g⟩ f w (.slice (some ⟨b, l * sz, none⟩) (m - l) (c - l)) w := by
  have := slC (P := P) (n := n) (f := f) (w := w) (dst := dst) (ty := ty) (pos := pos) (af := af) (g := g) (lo := some y) (hi := none) (mo := none) (l := l) (h := m) (mx := c) hT hE hx (.inr (by rw [Option.map_some, hy])) (.inl ⟨rfl, rfl⟩) (.inl ⟨rfl, rfl⟩) h1 h2 (Nat.le_refl _)
  rw [if_neg (by omega)] at this
  simpa [addC] using this
theorem slLHC {T E' sz b m c l h : Nat} {x y u : Operand} (hT : P.underlying T = some (.slice E')) (hE : (P.info? E').map (·.size) = some sz) (hx : ev n f x = .slice (some ⟨b, 0, none⟩) m c)
    (hy : ev n f y = .int .i64 (l : Int)) (hu : ev n f u = .int .i64 (h : Int)) (h1 : l ≤ h) (h2 : h ≤ c) (h3 : l < c) : St P n ⟨dst, .slice T x (some y) (some u) none, ty, pos, af, g⟩ f w (.slice (some ⟨b, l * sz, none⟩) (h - l) (c - l)) w := by
  have := slC (P := P) (n := n) (f := f) (w := w) (dst := dst) (ty := ty) (pos := pos) (af := af) (g := g) (lo := some y) (hi := some u) (mo := none) (l := l) (h := h) (mx := c) hT hE hx (.inr (by rw [Option.map_some, hy])) (.inr (by rw [Option.map_some, hu])) (.inl ⟨rfl, rfl⟩) h1 h2 (Nat.le_refl _)
  rw [if_neg (by omega)] at this
  simpa [addC] using this
theorem slLoD {T E' sz b m c l : Nat} {x y : Operand} (hT : P.underlying T = some (.slice E')) (hE : (P.info? E').map (·.size) = some sz) (hx : ev n f x = .slice (some ⟨b, 0, none⟩) m c)
    (hy : ev n f y = .int .i64 (l : Int)) (h1 : l ≤ m) (h2 : m ≤ c) : St P n ⟨dst, .slice T x (some y) none none, ty, pos, af, g⟩ f w (.slice (some (if c = l then ⟨b, 0, none⟩ else ⟨b, l * sz, none⟩)) (m - l) (c - l)) w := by
  have := slC (P := P) (n := n) (f := f) (w := w) (dst := dst) (ty := ty) (pos := pos) (af := af) (g := g) (lo := some y) (hi := none) (mo := none) (l := l) (h := m) (mx := c) hT hE hx (.inr (by rw [Option.map_some, hy])) (.inl ⟨rfl, rfl⟩) (.inl ⟨rfl, rfl⟩) h1 h2 (Nat.le_refl _)
  by_cases hc : c = l
  · simpa [hc] using this
  · simpa [hc, addC] using this
end
theorem K.neq {e w : World} {G : View} {L : Own} {b1 b2 : Nat} {o1 o2 : Obj} (hK : K e w G ((b1, o1) :: (b2, o2) :: L)) : b1 ≠ b2 := by
  have := hK.nodup
  simp only [List.map_cons, List.nodup_cons, List.mem_cons] at this
  exact fun h => this.1 (.inl h)
theorem cellB {w : World} {b o t : Nat} {cur : Array Value} (h : w.heap[b]? = some (.cells cur t (0, 0))) : w.cell? ⟨b, o, none⟩ = cur.toList[o]? := by simp [World.cell?, h]
theorem addB (b o j : Nat) : (⟨b, o, none⟩ : Addr).add j = ⟨b, o + j, none⟩ := by unfold Addr.add; split <;> simp_all
theorem partB {w : World} {b o t k : Nat} {cur : Array Value} {cs : List Value} (h : w.heap[b]? = some (.cells cur t (0, 0))) (hc : (cur.toList.drop o).take k = cs) : ∀ j v, cs[j]? = some v → w.cell? ((⟨b, o, none⟩ : Addr).add j) = some v := by
  intro j v hj
  subst hc
  rw [addB, cellB h]
  rw [List.getElem?_take] at hj
  split at hj
  · rw [List.getElem?_drop] at hj; exact hj
  · cases hj
section
variable {α : Type} {c : α → List Value} {sz : Nat}
theorem flat_take (hc : ∀ x, (c x).length = sz) : ∀ (xs : List α) (i : Nat), (xs.flatMap c).take (i * sz) = (xs.take i).flatMap c
  | [], i => by simp
  | x :: xs, 0 => by simp
  | x :: xs, i + 1 => by
    rw [List.flatMap_cons, List.take_succ_cons, List.flatMap_cons, ← flat_take hc xs i, List.take_append, List.take_of_length_le (by rw [hc, Nat.succ_mul]; omega), hc]
    congr 2
    rw [Nat.succ_mul]; omega
theorem flat_drop (hc : ∀ x, (c x).length = sz) : ∀ (xs : List α) (i : Nat), (xs.flatMap c).drop (i * sz) = (xs.drop i).flatMap c
  | [], i => by simp
  | x :: xs, 0 => by simp
  | x :: xs, i + 1 => by
    rw [List.flatMap_cons, List.drop_succ_cons, ← flat_drop hc xs i, List.drop_append, List.drop_eq_nil_of_le (by rw [hc, Nat.succ_mul]; omega), List.nil_append, hc]
    congr 1
    rw [Nat.succ_mul]; omega
end
theorem take_cat {p q r : List Value} {a : Nat} (h : p.length = a) : (p ++ q ++ r).take a = p := by rw [← h, List.append_assoc]; exact List.take_left
theorem two_up {l p q r : List Value} {a : Nat} (hp : l.take a = p) (ha : p.length = a) :
    ((l.take a ++ q ++ l.drop (a + q.length)).take (a + q.length) ++ r ++ (l.take a ++ q ++ l.drop (a + q.length)).drop (a + q.length + r.length)).take (a + q.length + r.length) = p ++ q ++ r := by
  subst hp
  have h1 : (l.take a ++ q).length = a + q.length := by rw [List.length_append]; omega
  have e1 : (l.take a ++ q ++ l.drop (a + q.length)).take (a + q.length) = l.take a ++ q := by rw [← h1]; exact List.take_left
  rw [e1]
  have h2 : (l.take a ++ q ++ r).length = a + q.length + r.length := by rw [List.length_append, h1]
  rw [← h2]; exact List.take_left
theorem two_down {l p q r : List Value} {a : Nat} (hp : l.take a = p) (ha : p.length = a) (hl : a + q.length + r.length ≤ l.length) :
    ((l.take (a + q.length) ++ r ++ l.drop (a + q.length + r.length)).take a ++ q ++ (l.take (a + q.length) ++ r ++ l.drop (a + q.length + r.length)).drop (a + q.length)).take (a + q.length + r.length) = p ++ q ++ r := by
  subst hp
  have h1 : (l.take (a + q.length)).length = a + q.length := by rw [List.length_take]; omega
  have e1 : (l.take (a + q.length) ++ r ++ l.drop (a + q.length + r.length)).drop (a + q.length) = r ++ l.drop (a + q.length + r.length) := by
    rw [List.append_assoc, List.drop_append, List.drop_eq_nil_of_le (by omega), List.nil_append, h1, Nat.sub_self, List.drop_zero]
  have e2 : (l.take (a + q.length) ++ r ++ l.drop (a + q.length + r.length)).take a = l.take a := by
    rw [List.append_assoc, List.take_append_of_le_length (by omega), List.take_take]; congr 1; omega
  rw [e1, e2, ← List.append_assoc]
  have h2 : (l.take a ++ q ++ r).length = a + q.length + r.length := by simp only [List.length_append]; omega
  rw [← h2]; exact List.take_left
theorem size_wr {cur : Array Value} {o : Nat} {cs : List Value} (h : o + cs.length ≤ cur.size) : (cur.toList.take o ++ cs ++ cur.toList.drop (o + cs.length)).toArray.size = cur.size := by
  simp only [List.size_toArray, List.length_append, List.length_take, List.length_drop, Array.length_toList]; omega
section
variable {α : Type} {c : α → List Value} {sz t b cap : Nat} {cur : Array Value} {xs : List α} {x : α} {i : Nat}
theorem ins_flat (hc : ∀ x, (c x).length = sz) (xs : List α) (x : α) (i : Nat) : (xs.take i ++ x :: xs.drop i).flatMap c = (xs.flatMap c).take (i * sz) ++ c x ++ (xs.flatMap c).drop (i * sz) := by
  rw [flat_take hc, flat_drop hc, List.flatMap_append, List.flatMap_cons, List.append_assoc]
theorem insR (hc : ∀ x, (c x).length = sz) (hi : i ≤ xs.length) (h1 : xs.length + 1 ≤ cap) (h2 : cap ≤ maxLen) (h3 : cur.size = cap * sz) (h4 : cur.toList.take (xs.length * sz) = xs.flatMap c) (m : Nat) (hm : m = xs.length + 1) :
    OS sz t (.slice (some ⟨b, 0, none⟩) m cap) (xs.length + 1) ((xs.take i ++ x :: xs.drop i).flatMap c)
      [(b, .cells (((cur.toList.take ((i + 1) * sz) ++ (xs.drop i).flatMap c ++ cur.toList.drop ((i + 1) * sz + ((xs.drop i).flatMap c).length)).toArray.toList.take (i * sz) ++ c x ++ (cur.toList.take ((i + 1) * sz) ++ (xs.drop i).flatMap c ++ cur.toList.drop ((i + 1) * sz + ((xs.drop i).flatMap c).length)).toArray.toList.drop (i * sz + (c x).length)).toArray) t (0, 0))] := by
  subst hm
  have hlen : ((xs.drop i).flatMap c).length = (xs.length - i) * sz := by rw [flat_len hc, List.length_drop]
  have hx := hc x
  have hcl : cur.toList.length = cap * sz := by rw [← h3]; exact Array.length_toList
  have e : (i + 1) * sz = i * sz + (c x).length := by rw [Nat.succ_mul, hx]
  have hmul : i * sz + sz + (xs.length - i) * sz = (xs.length + 1) * sz := by rw [← Nat.succ_mul, ← Nat.add_mul]; congr 1; omega
  have hcap : (xs.length + 1) * sz ≤ cap * sz := Nat.mul_le_mul_right _ h1
  have hp : cur.toList.take (i * sz) = (xs.flatMap c).take (i * sz) := by
    rw [← h4, List.take_take]; congr 1; rw [Nat.min_eq_left (Nat.mul_le_mul_right _ hi)]
  refine ⟨?_, .inr ⟨b, cap, _, rfl, rfl, h1, h2, ?_, ?_⟩⟩
  · rw [flat_len hc]; simp only [List.length_append, List.length_cons, List.length_take, List.length_drop]; congr 1; omega
  · have s1 := size_wr (cur := cur) (o := (i + 1) * sz) (cs := (xs.drop i).flatMap c) (by rw [hlen, h3]; rw [Nat.succ_mul]; omega)
    rw [size_wr (by rw [s1, h3, hx]; omega), s1, h3]
  · have hla : ((xs.flatMap c).take (i * sz)).length = i * sz := by rw [List.length_take, flat_len hc]; exact Nat.min_eq_left (Nat.mul_le_mul_right _ hi)
    have h := two_down (l := cur.toList) (p := (xs.flatMap c).take (i * sz)) (q := c x) (r := (xs.drop i).flatMap c) (a := i * sz) hp hla (by rw [hcl, hlen, hx]; omega)
    rw [ins_flat hc, flat_drop hc, ← h, e]
    congr 1
    rw [hx, hlen, hmul]
theorem insN (hc : ∀ x, (c x).length = sz) (hi : i ≤ xs.length) (h1 : xs.length + 1 ≤ cap) (h2 : cap ≤ maxLen) (h3 : cur.size = cap * sz) (h4 : cur.toList.take (i * sz) = (xs.take i).flatMap c) (m : Nat) (hm : m = xs.length + 1) :
    OS sz t (.slice (some ⟨b, 0, none⟩) m cap) (xs.length + 1) ((xs.take i ++ x :: xs.drop i).flatMap c)
      [(b, .cells (((cur.toList.take (i * sz) ++ c x ++ cur.toList.drop (i * sz + (c x).length)).toArray.toList.take ((i + 1) * sz) ++ (xs.drop i).flatMap c ++ (cur.toList.take (i * sz) ++ c x ++ cur.toList.drop (i * sz + (c x).length)).toArray.toList.drop ((i + 1) * sz + ((xs.drop i).flatMap c).length)).toArray) t (0, 0))] := by
  subst hm
  have hlen : ((xs.drop i).flatMap c).length = (xs.length - i) * sz := by rw [flat_len hc, List.length_drop]
  have hx := hc x
  have e : (i + 1) * sz = i * sz + (c x).length := by rw [Nat.succ_mul, hx]
  have hmul : i * sz + sz + (xs.length - i) * sz = (xs.length + 1) * sz := by rw [← Nat.succ_mul, ← Nat.add_mul]; congr 1; omega
  have hcap : (xs.length + 1) * sz ≤ cap * sz := Nat.mul_le_mul_right _ h1
  refine ⟨?_, .inr ⟨b, cap, _, rfl, rfl, h1, h2, ?_, ?_⟩⟩
  · rw [flat_len hc]; simp only [List.length_append, List.length_cons, List.length_take, List.length_drop]; congr 1; omega
  · have s1 := size_wr (cur := cur) (o := i * sz) (cs := c x) (by rw [hx, h3]; omega)
    rw [size_wr (by rw [s1, h3, hlen, Nat.succ_mul]; omega), s1, h3]
  · have hla : ((xs.take i).flatMap c).length = i * sz := by rw [flat_len hc, List.length_take, Nat.min_eq_left hi]
    have h := two_up (l := cur.toList) (p := (xs.take i).flatMap c) (q := c x) (r := (xs.drop i).flatMap c) (a := i * sz) h4 hla
    rw [ins_flat hc, flat_drop hc, flat_take hc, ← h, e]
    congr 1
    rw [hx, hlen, hmul]
theorem delR (hc : ∀ x, (c x).length = sz) (hi : i < xs.length) (h1 : xs.length ≤ cap) (h2 : cap ≤ maxLen) (h3 : cur.size = cap * sz) (h4 : cur.toList.take (xs.length * sz) = xs.flatMap c) {l : Nat} (hl : l = xs.length - 1) {Z : List Value} (hZ : Z.length = (xs.length - l) * sz) :
    OS sz t (.slice (some ⟨b, 0, none⟩) l cap) (xs.take i ++ xs.drop (i + 1)).length ((xs.take i ++ xs.drop (i + 1)).flatMap c)
      [(b, .cells ((cur.toList.take (i * sz) ++ (xs.drop (i + 1)).flatMap c ++ cur.toList.drop (i * sz + ((xs.drop (i + 1)).flatMap c).length)).toArray.toList.take (l * sz) ++ Z ++ (cur.toList.take (i * sz) ++ (xs.drop (i + 1)).flatMap c ++ cur.toList.drop (i * sz + ((xs.drop (i + 1)).flatMap c).length)).toArray.toList.drop (l * sz + (xs.length - l) * sz)).toArray t (0, 0))] := by
  have hm : (xs.take i ++ xs.drop (i + 1)).length = l := by rw [List.length_append, List.length_take, List.length_drop]; omega
  have hlen : ((xs.drop (i + 1)).flatMap c).length = (xs.length - (i + 1)) * sz := by rw [flat_len hc, List.length_drop]
  have hcap : xs.length * sz ≤ cap * sz := Nat.mul_le_mul_right _ h1
  have hcl : cur.toList.length = cap * sz := by rw [← h3]; exact Array.length_toList
  have e1 : l * sz = i * sz + (xs.length - (i + 1)) * sz := by rw [← Nat.add_mul]; congr 1; omega
  have e2 : l * sz + (xs.length - l) * sz = xs.length * sz := by rw [← Nat.add_mul]; congr 1; omega
  have e3 : i * sz ≤ xs.length * sz := Nat.mul_le_mul_right _ (by omega)
  have hp : cur.toList.take (i * sz) = (xs.take i).flatMap c := by
    rw [← flat_take hc, ← h4, List.take_take]; congr 1; rw [Nat.min_eq_left e3]
  rw [hm]
  refine ⟨by rw [flat_len hc, hm], .inr ⟨b, cap, _, rfl, rfl, by omega, h2, ?_, ?_⟩⟩
  · have s1 := size_wr (cur := cur) (o := i * sz) (cs := (xs.drop (i + 1)).flatMap c) (by rw [hlen, h3]; omega)
    have := size_wr (cur := (cur.toList.take (i * sz) ++ (xs.drop (i + 1)).flatMap c ++ cur.toList.drop (i * sz + ((xs.drop (i + 1)).flatMap c).length)).toArray) (o := l * sz) (cs := Z) (by rw [s1, h3, hZ]; omega)
    rw [hZ] at this
    rw [this, s1, h3]
  · have h5 : (cur.toList.take (i * sz) ++ (xs.drop (i + 1)).flatMap c).length = l * sz := by rw [List.length_append, List.length_take, hlen, hcl]; omega
    have h6 : (cur.toList.take (i * sz) ++ (xs.drop (i + 1)).flatMap c ++ cur.toList.drop (i * sz + ((xs.drop (i + 1)).flatMap c).length)).take (l * sz) = cur.toList.take (i * sz) ++ (xs.drop (i + 1)).flatMap c := by
      rw [← h5]; exact List.take_left
    exact (take_cat (by rw [h6]; exact h5)).trans (h6.trans (by rw [hp, List.flatMap_append]))
theorem keepR {l m : Nat} {ys : List Value} (h1 : l ≤ m) (h2 : m ≤ cap) (h3 : cap ≤ maxLen) (h4 : cur.size = cap * sz) (h5 : cur.toList.take (m * sz) = ys) {Z : List Value} (hZ : Z.length = (m - l) * sz) :
    OS sz t (.slice (some ⟨b, 0, none⟩) l cap) l (ys.take (l * sz)) [(b, .cells (cur.toList.take (l * sz) ++ Z ++ cur.toList.drop (l * sz + (m - l) * sz)).toArray t (0, 0))] := by
  have hcl : cur.toList.length = cap * sz := by rw [← h4]; exact Array.length_toList
  have e1 : l * sz ≤ m * sz := Nat.mul_le_mul_right _ h1
  have e2 : m * sz ≤ cap * sz := Nat.mul_le_mul_right _ h2
  have e3 : l * sz + (m - l) * sz = m * sz := by rw [← Nat.add_mul]; congr 1; omega
  have e4 : ys.take (l * sz) = cur.toList.take (l * sz) := by rw [← h5, List.take_take, Nat.min_eq_left e1]
  refine ⟨by rw [e4, List.length_take, hcl]; omega, .inr ⟨b, cap, _, rfl, rfl, by omega, h3, ?_, ?_⟩⟩
  · have := size_wr (cur := cur) (o := l * sz) (cs := Z) (by rw [h4, hZ]; omega)
    rw [hZ] at this
    rw [this, h4]
  · rw [e4]
    exact take_cat (by rw [List.length_take, hcl]; omega)
end
theorem OSx.intsV {G : View} {A : Own} {t : Nat} {v : Value} {xs : List Int} (h : OSx 1 t v xs.length (ints xs) A) : IntS (addV G A) v xs := by
  rcases h with h | ⟨h0, rfl, _, b, rfl⟩
  · exact h.ints
  · obtain rfl := List.eq_nil_of_length_eq_zero h0
    exact SlR.lit0
theorem flt_step {α : Type} {q : α → Bool} {xs ys : List α} {i j : Nat} (hj : j < xs.length) (hl : ys.length = xs.length) (hi : i = ((xs.take j).filter fun x => !q x).length) (h1 : ys.take i = (xs.take j).filter fun x => !q x) (h2 : ys.drop j = xs.drop j) (hq : q xs[j] = false) :
    i ≤ j ∧ i + 1 = ((xs.take (j + 1)).filter fun x => !q x).length ∧ (ys.set i xs[j]).take (i + 1) = ((xs.take (j + 1)).filter fun x => !q x) ∧ (ys.set i xs[j]).drop (j + 1) = xs.drop (j + 1) := by
  have hij : i ≤ j := by
    rw [hi]
    refine Nat.le_trans (List.length_filter_le _ _) ?_
    rw [List.length_take]; omega
  have e : (xs.take (j + 1)).filter (fun x => !q x) = (xs.take j).filter (fun x => !q x) ++ [xs[j]] := by
    rw [filter_take_succ hj, hq]; rfl
  refine ⟨hij, by rw [e, List.length_append, ← hi]; rfl, ?_, ?_⟩
  · rw [e, ← h1, List.take_succ_eq_append_getElem (by rw [List.length_set]; omega), List.getElem_set_self, List.take_set_of_le (Nat.le_refl _)]
  · rw [List.drop_set_of_lt (by omega)]
    have := congrArg (List.drop 1) h2
    rwa [List.drop_drop, List.drop_drop] at this
theorem flt_skip {α : Type} {q : α → Bool} {xs ys : List α} {j : Nat} (hj : j < xs.length) (h2 : ys.drop j = xs.drop j) (hq : q xs[j] = true) :
    (xs.take (j + 1)).filter (fun x => !q x) = (xs.take j).filter (fun x => !q x) ∧ ys.drop (j + 1) = xs.drop (j + 1) := by
  refine ⟨by rw [filter_take_succ hj, hq]; simp, ?_⟩
  have := congrArg (List.drop 1) h2
  rwa [List.drop_drop, List.drop_drop] at this
theorem drop_at {α : Type} {xs ys : List α} {j : Nat} (h2 : ys.drop j = xs.drop j) (hj : j < xs.length) : ys[j]? = some xs[j] := by
  have := congrArg (fun l => l[0]?) h2
  simp only [List.getElem?_drop, Nat.add_zero] at this
  rw [this, List.getElem?_eq_getElem hj]
open Go
def ErrS (TE ga gb : Nat) (G : View) (a0 a1 : Addr) : Prop :=
  cellV G ⟨ga, 0, none⟩ = some (.iface TE (.pointer (some a0))) ∧ cellV G ⟨gb, 0, none⟩ = some (.iface TE (.pointer (some a1))) ∧ a0 ≠ a1 ∧
    (∃ c t, G a0.block = some (.cells c t (0, 0))) ∧ (∃ c t, G a1.block = some (.cells c t (0, 0)))
theorem ErrS.mono {TE ga gb : Nat} {G G' : View} {a0 a1 : Addr} (h : ErrS TE ga gb G a0 a1) (hG : VLe G G') : ErrS TE ga gb G' a0 a1 :=
  ⟨cellV.mono hG h.1, cellV.mono hG h.2.1, h.2.2.1, by obtain ⟨c, t, hc⟩ := h.2.2.2.1; exact ⟨c, t, hG _ _ hc⟩, by obtain ⟨c, t, hc⟩ := h.2.2.2.2; exact ⟨c, t, hG _ _ hc⟩⟩
def HdR (TE : Nat) (a0 a1 : Addr) (lc : Ls → List Value) (G : View) (ls : List Ls) (ok : Prop) (o : Option (List Ls)) (r : Value) : Prop :=
  (¬ (LsOk ls ∧ ok) ∧ r = .tuple #[.slice none 0 0, .iface TE (.pointer (some a0))]) ∨ (LsOk ls ∧ ok ∧ o = none ∧ r = .tuple #[.slice none 0 0, .iface TE (.pointer (some a1))]) ∨
    ∃ v x, LsOk ls ∧ ok ∧ o = some x ∧ r = .tuple #[v, .nilIface] ∧ SlR 3 (EF lc) G v x
theorem HdR.tup {TE : Nat} {a0 a1 : Addr} {lc : Ls → List Value} {G : View} {ls : List Ls} {ok : Prop} {o : Option (List Ls)} {r : Value} (h : HdR TE a0 a1 lc G ls ok o r) : ∃ v u, r = .tuple #[v, u] := by
  rcases h with ⟨_, rfl⟩ | ⟨_, _, _, rfl⟩ | ⟨_, _, _, _, _, rfl, _⟩ <;> exact ⟨_, _, rfl⟩
theorem BsR.at {ls : List Ls} {k : Int} {i : Nat} {b : Bool} (h : BsR (fun x : Ls => x.1) ls k i b) (y : Ls) :
    ls.takeWhile (fun x => decide (x.1 < k)) ++ y :: ls.dropWhile (fun x => decide (x.1 < k)) = ls.take i ++ y :: ls.drop i := by
  rw [h.take.1, h.take.2]
open Go
theorem OSx.ef {α : Type} {c : α → List Value} {G : View} {A : Own} {t sz : Nat} {v : Value} {xs : List α} (hc : ∀ x, (c x).length = sz) (ho : OSx sz t v xs.length (xs.flatMap c) A) : SlR sz (EF c) (addV G A) v xs := by
  rcases ho with ho | ⟨h0, rfl, _, b, rfl⟩
  · exact OS.ef hc ho
  · obtain rfl := List.eq_nil_of_length_eq_zero h0
    exact SlR.lit0
theorem WdO.all {G : View} {lc : Ls → List Value} {tI tS TG bk : TypeId} {W : Wv} {wd : Wd} {rs : List Rn} {AI AS L : Own} {e w : World} {m0 m1 : Value} (h : WdO G lc tI tS W wd rs AI AS) (hK : K e w G ((bk, row (m0 :: m1 :: wc W) TG) :: (AI ++ (AS ++ L)))) :
    ∃ Gf, VLe G Gf ∧ WdS Gf lc W wd rs ∧ (∀ (j : Nat) u, (wc W)[j]? = some u → cellV Gf ⟨bk, 2 + j, none⟩ = some u) ∧ K e w Gf L ∧ (∀ w' L', K e w' Gf L' → K e w' G ((bk, row (m0 :: m1 :: wc W) TG) :: (AI ++ (AS ++ L')))) := by
  have h0 : K e w G (AI ++ ((bk, row (m0 :: m1 :: wc W) TG) :: (AS ++ L))) := K.mid (A := [_]) (B := AI) hK
  have h1 := h0.pub
  have h2 : K e w (addV G AI) (AS ++ ((bk, row (m0 :: m1 :: wc W) TG) :: L)) := K.mid (A := [_]) (B := AS) h1
  have h3 := h2.pub
  have h4 : K e w (addV (addV G AI) AS) ([(bk, row (m0 :: m1 :: wc W) TG)] ++ L) := h3
  have h5 := h4.pub
  have hG := (h0.addV_le.trans h2.addV_le).trans h4.addV_le
  refine ⟨_, hG, ⟨h.now, h.ring.mono hG, h.rg, EF.mono h.leases hG, EF.mono (OSx.ef (c := ic) (fun _ => rfl) h.items) (h2.addV_le.trans h4.addV_le), h.next, h.told.mono hG, EF.mono (c := fun n => [.int .i64 n]) (OSx.ef (c := fun n => [.int .i64 n]) (fun _ => rfl) h.since) h4.addV_le⟩, fun j u hj => ?_, h5, fun w' L' h' => ?_⟩
  · have := cellV_row (G := addV (addV (addV G AI) AS) [(bk, row (m0 :: m1 :: wc W) TG)]) (addV_mem (by simp) (List.mem_cons_self ..)) (2 + j)
    rw [this]
    rw [show 2 + j = j + 1 + 1 by omega, List.getElem?_cons_succ, List.getElem?_cons_succ]
    exact hj
  · have g4 : K e w' (addV (addV G AI) AS) ([(bk, row (m0 :: m1 :: wc W) TG)] ++ L') := h4.unpub' h'
    have g2 : K e w' (addV G AI) (AS ++ ((bk, row (m0 :: m1 :: wc W) TG) :: L')) := h2.unpub' g4
    have g1 : K e w' (addV G AI) ((bk, row (m0 :: m1 :: wc W) TG) :: (AS ++ L')) := K.mid (A := AS) (B := [_]) g2
    exact K.mid (A := AI) (B := [_]) (h0.unpub' g1)
section
variable {b c : Int} {xs : List It} {i : Nat}
theorem itf_cons (p : Bool) (x : It) (xs : List It) : itf b c p (x :: xs) = (if p = false ∧ b ≤ x.1 then [(b, c)] else []) ++ ((if x.1 ≠ b then [x] else []) ++ itf b c (p || decide (b ≤ x.1)) xs) := rfl
theorem itf_pre : ∀ (p q : List It), (∀ x ∈ p, x.1 < b) → itf b c false (p ++ q) = p ++ itf b c false q
  | [], _, _ => rfl
  | x :: p, q, h => by
    have hx := h x (List.mem_cons_self ..)
    have h1 : ¬ b ≤ x.1 := by omega
    have h2 : x.1 ≠ b := by omega
    show itf b c false (x :: (p ++ q)) = _
    rw [itf_cons, if_neg (by simp [h1]), if_pos h2, decide_eq_false h1, Bool.or_false, itf_pre p q (fun y hy => h y (List.mem_cons_of_mem _ hy))]
    rfl
theorem itf_gt {ys : List It} (h : ∀ y ∈ ys, b < y.1) : itf b c true ys = ys := by
  rw [itf_true]
  exact List.filter_eq_self.2 fun y hy => decide_eq_true (by have := h y hy; omega)
theorem gt_tail (hs : xs.Pairwise (fun a b => a.1 < b.1)) (hi : i < xs.length) (hk : b ≤ xs[i].1) : ∀ y ∈ xs.drop (i + 1), b < y.1 := by
  intro y hy
  obtain ⟨j, hj⟩ := List.getElem?_of_mem hy
  rw [List.getElem?_drop] at hj
  obtain ⟨hjl, rfl⟩ := List.getElem?_eq_some_iff.1 hj
  have := List.pairwise_iff_getElem.1 hs i (i + 1 + j) hi hjl (by omega)
  omega
theorem itf_put (hs : xs.Pairwise (fun a b => a.1 < b.1)) (h : BsR (fun x : It => x.1) xs b i true) : ∃ hi : i < xs.length, xs[i].1 = b ∧ itf b c false xs = xs.set i (b, c) := by
  obtain ⟨hi, hk⟩ := h.2.2.2.1 rfl
  replace hk : xs[i].1 = b := hk
  refine ⟨hi, hk, ?_⟩
  conv => lhs; rw [← List.take_append_drop i xs, itf_pre _ _ h.2.1, List.drop_eq_getElem_cons hi]
  rw [itf_cons, if_pos (by simp [hk]), if_neg (by simpa using hk), decide_eq_true (by omega : b ≤ xs[i].1), Bool.or_true, itf_gt (gt_tail hs hi (by omega)), List.set_eq_take_append_cons_drop, if_pos hi]
  rfl
theorem itf_ins (hs : xs.Pairwise (fun a b => a.1 < b.1)) (h : BsR (fun x : It => x.1) xs b i false) : itf b c false xs = xs.take i ++ (b, c) :: xs.drop i := by
  conv => lhs; rw [← List.take_append_drop i xs, itf_pre _ _ h.2.1]
  congr 1
  rcases Nat.lt_or_ge i xs.length with hi | hi
  · have hk : b ≤ xs[i].1 := h.2.2.1 hi
    have hne : xs[i].1 ≠ b := h.no (key := fun x : It => x.1) hs rfl _ (List.getElem_mem hi)
    rw [List.drop_eq_getElem_cons hi]
    rw [itf_cons, if_pos (by simp [hk]), if_pos hne, decide_eq_true hk, Bool.or_true, itf_gt (gt_tail hs hi hk)]
    rfl
  · rw [List.drop_eq_nil_of_le hi]; rfl
theorem itf_del (hs : xs.Pairwise (fun a b => a.1 < b.1)) (h : BsR (fun x : It => x.1) xs b i true) : i < xs.length ∧ itf b c true xs = xs.take i ++ xs.drop (i + 1) := by
  obtain ⟨hi, hk⟩ := h.2.2.2.1 rfl
  replace hk : xs[i].1 = b := hk
  refine ⟨hi, ?_⟩
  rw [itf_true]
  conv => lhs; rw [← List.take_append_drop i xs, List.drop_eq_getElem_cons hi]
  have e1 : (xs.take i).filter (fun x => decide (x.1 ≠ b)) = xs.take i := List.filter_eq_self.2 fun y hy => decide_eq_true (by have : y.1 < b := h.2.1 y hy; omega)
  have e2 : (xs.drop (i + 1)).filter (fun x => decide (x.1 ≠ b)) = xs.drop (i + 1) := List.filter_eq_self.2 fun y hy => decide_eq_true (by have := gt_tail hs hi (Int.le_of_eq hk.symm) y hy; omega)
  rw [List.filter_append, List.filter_cons_of_neg (by simp [hk]), e1, e2]
theorem itf_same (hs : xs.Pairwise (fun a b => a.1 < b.1)) (h : BsR (fun x : It => x.1) xs b i false) : itf b c true xs = xs := by
  rw [itf_true]
  exact List.filter_eq_self.2 fun y hy => decide_eq_true (h.no (key := fun x : It => x.1) hs rfl y hy)
end
end Go.Ro
