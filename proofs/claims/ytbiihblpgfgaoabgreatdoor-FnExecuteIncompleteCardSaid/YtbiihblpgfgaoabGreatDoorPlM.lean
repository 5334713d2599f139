/- Insertions into and deletions from slices of one's own, plain. Two error variables of a package; what operations on leases return. Worlds whose items are the walk's own: read whole; items put and erased, plain. Functions that defer one call. Plays of a world and quiet periods, plain. Conditions: those that each row states. -/
import Derived.Test.YtbiihblpgfgaoabGreatDoorBsl
import Derived.Test.YtbiihblpgfgaoabGreatDoorStM
import Derived.Test.YtbiihblpgfgaoabGreatDoorWdN
import Derived.Defers
import Derived.Test.YtbiihblpgfgaoabGreatDoorOx
namespace Go.Ro
open Go
section
variable {P : Program} {n : Nat} {f : Sl} {w : World} {dst : Option Tmp} {ty : TypeId} {pos : String} {af : Array Edge} {g : Option (Nat × Bool)}
theorem capS {x : Operand} {T ty' E : TypeId} {a : Option Addr} {m c : Nat} (hT : P.underlying T = some (.slice E)) (hx : ev n f x = .slice a m c) :
    St P n ⟨dst, .call ⟨.builtin .cap, #[x], #[T]⟩, ty', pos, af, g⟩ f w (.int .i64 (c : Int)) w := by
  unfold St execOp
  simp [resolve, invoke, builtin, Builtin.cap_, hx, run_underlying hT, goInt]
end
section
variable {P : Program} {n : Nat} {f : Sl} {w : World} {dst : Option Tmp} {ty : TypeId} {pos : String} {af : Array Edge} {g : Option (Nat × Bool)}
theorem addC (b o j : Nat) : (⟨b, o, none⟩ : Addr).add j = ⟨b, o + j, none⟩ := by unfold Addr.add; split <;> simp_all
theorem slHiC {T E' sz b m c h : Nat} {x y : Operand} (hT : P.underlying T = some (.slice E')) (hE : (P.info? E').map (·.size) = some sz) (hx : ev n f x = .slice (some ⟨b, 0, none⟩) m c)
    (hy : ev n f y = .int .i64 (h : Int)) (h2 : h ≤ c) : St P n ⟨dst, .slice T x none (some y) none, ty, pos, af, g⟩ f w (.slice (some ⟨b, 0, none⟩) h c) w := by
  have := slC (P := P) (n := n) (f := f) (w := w) (dst := dst) (ty := ty) (pos := pos) (af := af) (g := g) (lo := none) (hi := some y) (mo := none) (l := 0) (h := h) (mx := c) hT hE hx (.inl ⟨rfl, rfl⟩) (.inr (by rw [Option.map_some, hy])) (.inl ⟨rfl, rfl⟩) (Nat.zero_le _) h2 (Nat.le_refl _)
  simpa [addC] using this
theorem slLoC {T E' sz b m c l : Nat} {x y : Operand} (hT : P.underlying T = some (.slice E')) (hE : (P.info? E').map (·.size) = some sz) (hx : ev n f x = .slice (some ⟨b, 0, none⟩) m c)
    (hy : ev n f y = .int .i64 (l : Int)) (h1 : l ≤ m) (h2 : m ≤ c) (h3 : l < c) : St P n ⟨dst, .slice T x (some y) none none, ty, pos, af, g⟩ f w (.slice (some ⟨b, l * sz, none⟩) (m - l) (c - l)) w := by
  have := slC (P := P) (n := n) (f := f) (w := w) (dst := dst) (ty := ty) (pos := pos) (af := af) (g := g) (lo := some y) (hi := none) (mo := none) (l := l) (h := m) (mx := c) hT hE hx (.inr (by rw [Option.map_some, hy])) (.inl ⟨rfl, rfl⟩) (.inl ⟨rfl, rfl⟩) h1 h2 (Nat.le_refl _)
  rw [if_neg (by omega)] at this
  simpa [addC] using this
theorem slLHC {T E' sz b m c l h : Nat} {x y u : Operand} (hT : P.underlying T = some (.slice E')) (hE : (P.info? E').map (·.size) = some sz) (hx : ev n f x = .slice (some ⟨b, 0, none⟩) m c)
    (hy : ev n f y = .int .i64 (l : Int)) (hu : ev n f u = .int .i64 (h : Int)) (h1 : l ≤ h) (h2 : h ≤ c) (h3 : l < c) : St P n ⟨dst, .slice T x (some y) (some u) none, ty, pos, af, g⟩ f w (.slice (some ⟨b, l * sz, none⟩) (h - l) (c - l)) w := by
  have := slC (P := P) (n := n) (f := f) (w := w) (dst := dst) (ty := ty) (pos := pos) (af := af) (g := g) (lo := some y) (hi := some u) (mo := none) (l := l) (h := h) (mx := c) hT hE hx (.inr (by rw [Option.map_some, hy])) (.inr (by rw [Option.map_some, hu])) (.inl ⟨rfl, rfl⟩) h1 h2 (Nat.le_refl _)
  rw [if_neg (by omega)] at this
  simpa [addC] using this
theorem slLoD {T E' sz b m c l : Nat} {x y : Operand} (hT : P.underlying T = some (.slice E')) (hE : (P.info? E').map (·.size) = some sz) (hx : ev n f x = .slice (some ⟨b, 0, none⟩) m c)
    (hy : ev n f y = .int .i64 (l : Int)) (h1 : l ≤ m) (h2 : m ≤ c) : St P n ⟨dst, .slice T x (some y) none none, ty, pos, af, g⟩ f w (.slice (some (if c = l then ⟨b, 0, none⟩ else ⟨b, l * sz, none⟩)) (m - l) (c - l)) w := by
  have := slC (P := P) (n := n) (f := f) (w := w) (dst := dst) (ty := ty) (pos := pos) (af := af) (g := g) (lo := some y) (hi := none) (mo := none) (l := l) (h := m) (mx := c) hT hE hx (.inr (by rw [Option.map_some, hy])) (.inl ⟨rfl, rfl⟩) (.inl ⟨rfl, rfl⟩) h1 h2 (Nat.le_refl _)
  by_cases hc : c = l
  · simpa [hc] using this
  · simpa [hc, addC] using this
end
theorem K.neq {e w : World} {G : View} {L : Own} {b1 b2 : Nat} {o1 o2 : Obj} (hK : K e w G ((b1, o1) :: (b2, o2) :: L)) : b1 ≠ b2 := by
  have := hK.nodup
  simp only [List.map_cons, List.nodup_cons, List.mem_cons] at this
  exact fun h => this.1 (.inl h)
theorem cellB {w : World} {b o t : Nat} {cur : Array Value} (h : w.heap[b]? = some (.cells cur t (0, 0))) : w.cell? ⟨b, o, none⟩ = cur.toList[o]? := by simp [World.cell?, h]
theorem addB (b o j : Nat) : (⟨b, o, none⟩ : Addr).add j = ⟨b, o + j, none⟩ := by unfold Addr.add; split <;> simp_all
theorem partB {w : World} {b o t k : Nat} {cur : Array Value} {cs : List Value} (h : w.heap[b]? = some (.cells cur t (0, 0))) (hc : (cur.toList.drop o).take k = cs) : ∀ j v, cs[j]? = some v → w.cell? ((⟨b, o, none⟩ : Addr).add j) = some v := by
  intro j v hj
  subst hc
  rw [addB, cellB h]
  rw [List.getElem?_take] at hj
  split at hj
  · rw [List.getElem?_drop] at hj; exact hj
  · cases hj
section
variable {α : Type} {c : α → List Value} {sz : Nat}
theorem flat_take (hc : ∀ x, (c x).length = sz) : ∀ (xs : List α) (i : Nat), (xs.flatMap c).take (i * sz) = (xs.take i).flatMap c
  | [], i => by simp
  | x :: xs, 0 => by simp
  | x :: xs, i + 1 => by
    rw [List.flatMap_cons, List.take_succ_cons, List.flatMap_cons, ← flat_take hc xs i, List.take_append, List.take_of_length_le (by rw [hc, Nat.succ_mul]; omega), hc]
    congr 2
    rw [Nat.succ_mul]; omega
theorem flat_drop (hc : ∀ x, (c x).length = sz) : ∀ (xs : List α) (i : Nat), (xs.flatMap c).drop (i * sz) = (xs.drop i).flatMap c
  | [], i => by simp
  | x :: xs, 0 => by simp
  | x :: xs, i + 1 => by
    rw [List.flatMap_cons, List.drop_succ_cons, ← flat_drop hc xs i, List.drop_append, List.drop_eq_nil_of_le (by rw [hc, Nat.succ_mul]; omega), List.nil_append, hc]
    congr 1
    rw [Nat.succ_mul]; omega
end
theorem take_cat {p q r : List Value} {a : Nat} (h : p.length = a) : (p ++ q ++ r).take a = p := by rw [← h, List.append_assoc]; exact List.take_left
theorem two_up {l p q r : List Value} {a : Nat} (hp : l.take a = p) (ha : p.length = a) :
    ((l.take a ++ q ++ l.drop (a + q.length)).take (a + q.length) ++ r ++ (l.take a ++ q ++ l.drop (a + q.length)).drop (a + q.length + r.length)).take (a + q.length + r.length) = p ++ q ++ r := by
  subst hp
  have h1 : (l.take a ++ q).length = a + q.length := by rw [List.length_append]; omega
  have e1 : (l.take a ++ q ++ l.drop (a + q.length)).take (a + q.length) = l.take a ++ q := by rw [← h1]; exact List.take_left
  rw [e1]
  have h2 : (l.take a ++ q ++ r).length = a + q.length + r.length := by rw [List.length_append, h1]
  rw [← h2]; exact List.take_left
theorem two_down {l p q r : List Value} {a : Nat} (hp : l.take a = p) (ha : p.length = a) (hl : a + q.length + r.length ≤ l.length) :
    ((l.take (a + q.length) ++ r ++ l.drop (a + q.length + r.length)).take a ++ q ++ (l.take (a + q.length) ++ r ++ l.drop (a + q.length + r.length)).drop (a + q.length)).take (a + q.length + r.length) = p ++ q ++ r := by
  subst hp
  have h1 : (l.take (a + q.length)).length = a + q.length := by rw [List.length_take]; omega
  have e1 : (l.take (a + q.length) ++ r ++ l.drop (a + q.length + r.length)).drop (a + q.length) = r ++ l.drop (a + q.length + r.length) := by
    rw [List.append_assoc, List.drop_append, List.drop_eq_nil_of_le (by omega), List.nil_append, h1, Nat.sub_self, List.drop_zero]
  have e2 : (l.take (a + q.length) ++ r ++ l.drop (a + q.length + r.length)).take a = l.take a := by
    rw [List.append_assoc, List.take_append_of_le_length (by omega), List.take_take]; congr 1; omega
  rw [e1, e2, ← List.append_assoc]
  have h2 : (l.take a ++ q ++ r).length = a + q.length + r.length := by simp only [List.length_append]; omega
  rw [← h2]; exact List.take_left
theorem size_wr {cur : Array Value} {o : Nat} {cs : List Value} (h : o + cs.length ≤ cur.size) : (cur.toList.take o ++ cs ++ cur.toList.drop (o + cs.length)).toArray.size = cur.size := by
  simp only [List.size_toArray, List.length_append, List.length_take, List.length_drop, Array.length_toList]; omega
section
variable {α : Type} {c : α → List Value} {sz t b cap : Nat} {cur : Array Value} {xs : List α} {x : α} {i : Nat}
theorem ins_flat (hc : ∀ x, (c x).length = sz) (xs : List α) (x : α) (i : Nat) : (xs.take i ++ x :: xs.drop i).flatMap c = (xs.flatMap c).take (i * sz) ++ c x ++ (xs.flatMap c).drop (i * sz) := by
  rw [flat_take hc, flat_drop hc, List.flatMap_append, List.flatMap_cons, List.append_assoc]
theorem insR (hc : ∀ x, (c x).length = sz) (hi : i ≤ xs.length) (h1 : xs.length + 1 ≤ cap) (h2 : cap ≤ maxLen) (h3 : cur.size = cap * sz) (h4 : cur.toList.take (xs.length * sz) = xs.flatMap c) (m : Nat) (hm : m = xs.length + 1) :
    OS sz t (.slice (some ⟨b, 0, none⟩) m cap) (xs.length + 1) ((xs.take i ++ x :: xs.drop i).flatMap c)
      [(b, .cells (((cur.toList.take ((i + 1) * sz) ++ (xs.drop i).flatMap c ++ cur.toList.drop ((i + 1) * sz + ((xs.drop i).flatMap c).length)).toArray.toList.take (i * sz) ++ c x ++ (cur.toList.take ((i + 1) * sz) ++ (xs.drop i).flatMap c ++ cur.toList.drop ((i + 1) * sz + ((xs.drop i).flatMap c).length)).toArray.toList.drop (i * sz + (c x).length)).toArray) t (0, 0))] := by
  subst hm
  have hlen : ((xs.drop i).flatMap c).length = (xs.length - i) * sz := by rw [flat_len hc, List.length_drop]
  have hx := hc x
  have hcl : cur.toList.length = cap * sz := by rw [← h3]; exact Array.length_toList
  have e : (i + 1) * sz = i * sz + (c x).length := by rw [Nat.succ_mul, hx]
  have hmul : i * sz + sz + (xs.length - i) * sz = (xs.length + 1) * sz := by rw [← Nat.succ_mul, ← Nat.add_mul]; congr 1; omega
  have hcap : (xs.length + 1) * sz ≤ cap * sz := Nat.mul_le_mul_right _ h1
  have hp : cur.toList.take (i * sz) = (xs.flatMap c).take (i * sz) := by
    rw [← h4, List.take_take]; congr 1; rw [Nat.min_eq_left (Nat.mul_le_mul_right _ hi)]
  refine ⟨?_, .inr ⟨b, cap, _, rfl, rfl, h1, h2, ?_, ?_⟩⟩
  · rw [flat_len hc]; simp only [List.length_append, List.length_cons, List.length_take, List.length_drop]; congr 1; omega
  · have s1 := size_wr (cur := cur) (o := (i + 1) * sz) (cs := (xs.drop i).flatMap c) (by rw [hlen, h3]; rw [Nat.succ_mul]; omega)
    rw [size_wr (by rw [s1, h3, hx]; omega), s1, h3]
  · have hla : ((xs.flatMap c).take (i * sz)).length = i * sz := by rw [List.length_take, flat_len hc]; exact Nat.min_eq_left (Nat.mul_le_mul_right _ hi)
    have h := two_down (l := cur.toList) (p := (xs.flatMap c).take (i * sz)) (q := c x) (r := (xs.drop i).flatMap c) (a := i * sz) hp hla (by rw [hcl, hlen, hx]; omega)
    rw [ins_flat hc, flat_drop hc, ← h, e]
    congr 1
    rw [hx, hlen, hmul]
theorem insN (hc : ∀ x, (c x).length = sz) (hi : i ≤ xs.length) (h1 : xs.length + 1 ≤ cap) (h2 : cap ≤ maxLen) (h3 : cur.size = cap * sz) (h4 : cur.toList.take (i * sz) = (xs.take i).flatMap c) (m : Nat) (hm : m = xs.length + 1) :
    OS sz t (.slice (some ⟨b, 0, none⟩) m cap) (xs.length + 1) ((xs.take i ++ x :: xs.drop i).flatMap c)
      [(b, .cells (((cur.toList.take (i * sz) ++ c x ++ cur.toList.drop (i * sz + (c x).length)).toArray.toList.take ((i + 1) * sz) ++ (xs.drop i).flatMap c ++ (cur.toList.take (i * sz) ++ c x ++ cur.toList.drop (i * sz + (c x).length)).toArray.toList.drop ((i + 1) * sz + ((xs.drop i).flatMap c).length)).toArray) t (0, 0))] := by
  subst hm
  have hlen : ((xs.drop i).flatMap c).length = (xs.length - i) * sz := by rw [flat_len hc, List.length_drop]
  have hx := hc x
  have e : (i + 1) * sz = i * sz + (c x).length := by rw [Nat.succ_mul, hx]
  have hmul : i * sz + sz + (xs.length - i) * sz = (xs.length + 1) * sz := by rw [← Nat.succ_mul, ← Nat.add_mul]; congr 1; omega
  have hcap : (xs.length + 1) * sz ≤ cap * sz := Nat.mul_le_mul_right _ h1
  refine ⟨?_, .inr ⟨b, cap, _, rfl, rfl, h1, h2, ?_, ?_⟩⟩
  · rw [flat_len hc]; simp only [List.length_append, List.length_cons, List.length_take, List.length_drop]; congr 1; omega
  · have s1 := size_wr (cur := cur) (o := i * sz) (cs := c x) (by rw [hx, h3]; omega)
    rw [size_wr (by rw [s1, h3, hlen, Nat.succ_mul]; omega), s1, h3]
  · have hla : ((xs.take i).flatMap c).length = i * sz := by rw [flat_len hc, List.length_take, Nat.min_eq_left hi]
    have h := two_up (l := cur.toList) (p := (xs.take i).flatMap c) (q := c x) (r := (xs.drop i).flatMap c) (a := i * sz) h4 hla
    rw [ins_flat hc, flat_drop hc, flat_take hc, ← h, e]
    congr 1
    rw [hx, hlen, hmul]
theorem delR (hc : ∀ x, (c x).length = sz) (hi : i < xs.length) (h1 : xs.length ≤ cap) (h2 : cap ≤ maxLen) (h3 : cur.size = cap * sz) (h4 : cur.toList.take (xs.length * sz) = xs.flatMap c) {l : Nat} (hl : l = xs.length - 1) {Z : List Value} (hZ : Z.length = (xs.length - l) * sz) :
    OS sz t (.slice (some ⟨b, 0, none⟩) l cap) (xs.take i ++ xs.drop (i + 1)).length ((xs.take i ++ xs.drop (i + 1)).flatMap c)
      [(b, .cells ((cur.toList.take (i * sz) ++ (xs.drop (i + 1)).flatMap c ++ cur.toList.drop (i * sz + ((xs.drop (i + 1)).flatMap c).length)).toArray.toList.take (l * sz) ++ Z ++ (cur.toList.take (i * sz) ++ (xs.drop (i + 1)).flatMap c ++ cur.toList.drop (i * sz + ((xs.drop (i + 1)).flatMap c).length)).toArray.toList.drop (l * sz + (xs.length - l) * sz)).toArray t (0, 0))] := by
  have hm : (xs.take i ++ xs.drop (i + 1)).length = l := by rw [List.length_append, List.length_take, List.length_drop]; omega
  have hlen : ((xs.drop (i + 1)).flatMap c).length = (xs.length - (i + 1)) * sz := by rw [flat_len hc, List.length_drop]
  have hcap : xs.length * sz ≤ cap * sz := Nat.mul_le_mul_right _ h1
  have hcl : cur.toList.length = cap * sz := by rw [← h3]; exact Array.length_toList
  have e1 : l * sz = i * sz + (xs.length - (i + 1)) * sz := by rw [← Nat.add_mul]; congr 1; omega
  have e2 : l * sz + (xs.length - l) * sz = xs.length * sz := by rw [← Nat.add_mul]; congr 1; omega
  have e3 : i * sz ≤ xs.length * sz := Nat.mul_le_mul_right _ (by omega)
  have hp : cur.toList.take (i * sz) = (xs.take i).flatMap c := by
    rw [← flat_take hc, ← h4, List.take_take]; congr 1; rw [Nat.min_eq_left e3]
  rw [hm]
  refine ⟨by rw [flat_len hc, hm], .inr ⟨b, cap, _, rfl, rfl, by omega, h2, ?_, ?_⟩⟩
  · have s1 := size_wr (cur := cur) (o := i * sz) (cs := (xs.drop (i + 1)).flatMap c) (by rw [hlen, h3]; omega)
    have := size_wr (cur := (cur.toList.take (i * sz) ++ (xs.drop (i + 1)).flatMap c ++ cur.toList.drop (i * sz + ((xs.drop (i + 1)).flatMap c).length)).toArray) (o := l * sz) (cs := Z) (by rw [s1, h3, hZ]; omega)
    rw [hZ] at this
    rw [this, s1, h3]
  · have h5 : (cur.toList.take (i * sz) ++ (xs.drop (i + 1)).flatMap c).length = l * sz := by rw [List.length_append, List.length_take, hlen, hcl]; omega
    have h6 : (cur.toList.take (i * sz) ++ (xs.drop (i + 1)).flatMap c ++ cur.toList.drop (i * sz + ((xs.drop (i + 1)).flatMap c).length)).take (l * sz) = cur.toList.take (i * sz) ++ (xs.drop (i + 1)).flatMap c := by
      rw [← h5]; exact List.take_left
    exact (take_cat (by rw [h6]; exact h5)).trans (h6.trans (by rw [hp, List.flatMap_append]))
theorem keepR {l m : Nat} {ys : List Value} (h1 : l ≤ m) (h2 : m ≤ cap) (h3 : cap ≤ maxLen) (h4 : cur.size = cap * sz) (h5 : cur.toList.take (m * sz) = ys) {Z : List Value} (hZ : Z.length = (m - l) * sz) :
    OS sz t (.slice (some ⟨b, 0, none⟩) l cap) l (ys.take (l * sz)) [(b, .cells (cur.toList.take (l * sz) ++ Z ++ cur.toList.drop (l * sz + (m - l) * sz)).toArray t (0, 0))] := by
  have hcl : cur.toList.length = cap * sz := by rw [← h4]; exact Array.length_toList
  have e1 : l * sz ≤ m * sz := Nat.mul_le_mul_right _ h1
  have e2 : m * sz ≤ cap * sz := Nat.mul_le_mul_right _ h2
  have e3 : l * sz + (m - l) * sz = m * sz := by rw [← Nat.add_mul]; congr 1; omega
  have e4 : ys.take (l * sz) = cur.toList.take (l * sz) := by rw [← h5, List.take_take, Nat.min_eq_left e1]
  refine ⟨by rw [e4, List.length_take, hcl]; omega, .inr ⟨b, cap, _, rfl, rfl, by omega, h3, ?_, ?_⟩⟩
  · have := size_wr (cur := cur) (o := l * sz) (cs := Z) (by rw [h4, hZ]; omega)
    rw [hZ] at this
    rw [this, h4]
  · rw [e4]
    exact take_cat (by rw [List.length_take, hcl]; omega)
end
theorem OSx.intsV {G : View} {A : Own} {t : Nat} {v : Value} {xs : List Int} (h : OSx 1 t v xs.length (ints xs) A) : IntS (addV G A) v xs := by
  rcases h with h | ⟨h0, rfl, _, b, rfl⟩
  · exact h.ints
  · obtain rfl := List.eq_nil_of_length_eq_zero h0
    exact SlR.lit0
theorem flt_step {α : Type} {q : α → Bool} {xs ys : List α} {i j : Nat} (hj : j < xs.length) (hl : ys.length = xs.length) (hi : i = ((xs.take j).filter fun x => !q x).length) (h1 : ys.take i = (xs.take j).filter fun x => !q x) (h2 : ys.drop j = xs.drop j) (hq : q xs[j] = false) :
    i ≤ j ∧ i + 1 = ((xs.take (j + 1)).filter fun x => !q x).length ∧ (ys.set i xs[j]).take (i + 1) = ((xs.take (j + 1)).filter fun x => !q x) ∧ (ys.set i xs[j]).drop (j + 1) = xs.drop (j + 1) := by
  have hij : i ≤ j := by
    rw [hi]
    refine Nat.le_trans (List.length_filter_le _ _) ?_
    rw [List.length_take]; omega
  have e : (xs.take (j + 1)).filter (fun x => !q x) = (xs.take j).filter (fun x => !q x) ++ [xs[j]] := by
    rw [filter_take_succ hj, hq]; rfl
  refine ⟨hij, by rw [e, List.length_append, ← hi]; rfl, ?_, ?_⟩
  · rw [e, ← h1, List.take_succ_eq_append_getElem (by rw [List.length_set]; omega), List.getElem_set_self, List.take_set_of_le (Nat.le_refl _)]
  · rw [List.drop_set_of_lt (by omega)]
    have := congrArg (List.drop 1) h2
    rwa [List.drop_drop, List.drop_drop] at this
theorem flt_skip {α : Type} {q : α → Bool} {xs ys : List α} {j : Nat} (hj : j < xs.length) (h2 : ys.drop j = xs.drop j) (hq : q xs[j] = true) :
    (xs.take (j + 1)).filter (fun x => !q x) = (xs.take j).filter (fun x => !q x) ∧ ys.drop (j + 1) = xs.drop (j + 1) := by
  refine ⟨by rw [filter_take_succ hj, hq]; simp, ?_⟩
  have := congrArg (List.drop 1) h2
  rwa [List.drop_drop, List.drop_drop] at this
theorem drop_at {α : Type} {xs ys : List α} {j : Nat} (h2 : ys.drop j = xs.drop j) (hj : j < xs.length) : ys[j]? = some xs[j] := by
  have := congrArg (fun l => l[0]?) h2
  simp only [List.getElem?_drop, Nat.add_zero] at this
  rw [this, List.getElem?_eq_getElem hj]
open Go
def ErrS (TE ga gb : Nat) (G : View) (a0 a1 : Addr) : Prop :=
  cellV G ⟨ga, 0, none⟩ = some (.iface TE (.pointer (some a0))) ∧ cellV G ⟨gb, 0, none⟩ = some (.iface TE (.pointer (some a1))) ∧ a0 ≠ a1 ∧
    (∃ c t, G a0.block = some (.cells c t (0, 0))) ∧ (∃ c t, G a1.block = some (.cells c t (0, 0)))
theorem ErrS.mono {TE ga gb : Nat} {G G' : View} {a0 a1 : Addr} (h : ErrS TE ga gb G a0 a1) (hG : VLe G G') : ErrS TE ga gb G' a0 a1 :=
  ⟨cellV.mono hG h.1, cellV.mono hG h.2.1, h.2.2.1, by obtain ⟨c, t, hc⟩ := h.2.2.2.1; exact ⟨c, t, hG _ _ hc⟩, by obtain ⟨c, t, hc⟩ := h.2.2.2.2; exact ⟨c, t, hG _ _ hc⟩⟩
def HdR (TE : Nat) (a0 a1 : Addr) (lc : Ls → List Value) (G : View) (ls : List Ls) (ok : Prop) (o : Option (List Ls)) (r : Value) : Prop :=
  (¬ (LsOk ls ∧ ok) ∧ r = .tuple #[.slice none 0 0, .iface TE (.pointer (some a0))]) ∨ (LsOk ls ∧ ok ∧ o = none ∧ r = .tuple #[.slice none 0 0, .iface TE (.pointer (some a1))]) ∨
    ∃ v x, LsOk ls ∧ ok ∧ o = some x ∧ r = .tuple #[v, .nilIface] ∧ SlR 3 (EF lc) G v x
theorem HdR.tup {TE : Nat} {a0 a1 : Addr} {lc : Ls → List Value} {G : View} {ls : List Ls} {ok : Prop} {o : Option (List Ls)} {r : Value} (h : HdR TE a0 a1 lc G ls ok o r) : ∃ v u, r = .tuple #[v, u] := by
  rcases h with ⟨_, rfl⟩ | ⟨_, _, _, rfl⟩ | ⟨_, _, _, _, _, rfl, _⟩ <;> exact ⟨_, _, rfl⟩
theorem BsR.at {ls : List Ls} {k : Int} {i : Nat} {b : Bool} (h : BsR (fun x : Ls => x.1) ls k i b) (y : Ls) :
    ls.takeWhile (fun x => decide (x.1 < k)) ++ y :: ls.dropWhile (fun x => decide (x.1 < k)) = ls.take i ++ y :: ls.drop i := by
  rw [h.take.1, h.take.2]
open Go
theorem OSx.ef {α : Type} {c : α → List Value} {G : View} {A : Own} {t sz : Nat} {v : Value} {xs : List α} (hc : ∀ x, (c x).length = sz) (ho : OSx sz t v xs.length (xs.flatMap c) A) : SlR sz (EF c) (addV G A) v xs := by
  rcases ho with ho | ⟨h0, rfl, _, b, rfl⟩
  · exact OS.ef hc ho
  · obtain rfl := List.eq_nil_of_length_eq_zero h0
    exact SlR.lit0
theorem WdO.all {G : View} {lc : Ls → List Value} {tI tS TG bk : TypeId} {W : Wv} {wd : Wd} {rs : List Rn} {AI AS L : Own} {e w : World} {m0 m1 : Value} (h : WdO G lc tI tS W wd rs AI AS) (hK : K e w G ((bk, row (m0 :: m1 :: wc W) TG) :: (AI ++ (AS ++ L)))) :
    ∃ Gf, VLe G Gf ∧ WdS Gf lc W wd rs ∧ (∀ (j : Nat) u, (wc W)[j]? = some u → cellV Gf ⟨bk, 2 + j, none⟩ = some u) ∧ K e w Gf L ∧ (∀ w' L', K e w' Gf L' → K e w' G ((bk, row (m0 :: m1 :: wc W) TG) :: (AI ++ (AS ++ L')))) := by
  have h0 : K e w G (AI ++ ((bk, row (m0 :: m1 :: wc W) TG) :: (AS ++ L))) := K.mid (A := [_]) (B := AI) hK
  have h1 := h0.pub
  have h2 : K e w (addV G AI) (AS ++ ((bk, row (m0 :: m1 :: wc W) TG) :: L)) := K.mid (A := [_]) (B := AS) h1
  have h3 := h2.pub
  have h4 : K e w (addV (addV G AI) AS) ([(bk, row (m0 :: m1 :: wc W) TG)] ++ L) := h3
  have h5 := h4.pub
  have hG := (h0.addV_le.trans h2.addV_le).trans h4.addV_le
  refine ⟨_, hG, ⟨h.now, h.ring.mono hG, h.rg, EF.mono h.leases hG, EF.mono (OSx.ef (c := ic) (fun _ => rfl) h.items) (h2.addV_le.trans h4.addV_le), h.next, h.told.mono hG, EF.mono (c := fun n => [.int .i64 n]) (OSx.ef (c := fun n => [.int .i64 n]) (fun _ => rfl) h.since) h4.addV_le⟩, fun j u hj => ?_, h5, fun w' L' h' => ?_⟩
  · have := cellV_row (G := addV (addV (addV G AI) AS) [(bk, row (m0 :: m1 :: wc W) TG)]) (addV_mem (by simp) (List.mem_cons_self ..)) (2 + j)
    rw [this]
    rw [show 2 + j = j + 1 + 1 by omega, List.getElem?_cons_succ, List.getElem?_cons_succ]
    exact hj
  · have g4 : K e w' (addV (addV G AI) AS) ([(bk, row (m0 :: m1 :: wc W) TG)] ++ L') := h4.unpub' h'
    have g2 : K e w' (addV G AI) (AS ++ ((bk, row (m0 :: m1 :: wc W) TG) :: L')) := h2.unpub' g4
    have g1 : K e w' (addV G AI) ((bk, row (m0 :: m1 :: wc W) TG) :: (AS ++ L')) := K.mid (A := AS) (B := [_]) g2
    exact K.mid (A := AI) (B := [_]) (h0.unpub' g1)
section
variable {b c : Int} {xs : List It} {i : Nat}
theorem itf_cons (p : Bool) (x : It) (xs : List It) : itf b c p (x :: xs) = (if p = false ∧ b ≤ x.1 then [(b, c)] else []) ++ ((if x.1 ≠ b then [x] else []) ++ itf b c (p || decide (b ≤ x.1)) xs) := rfl
theorem itf_pre : ∀ (p q : List It), (∀ x ∈ p, x.1 < b) → itf b c false (p ++ q) = p ++ itf b c false q
  | [], _, _ => rfl
  | x :: p, q, h => by
    have hx := h x (List.mem_cons_self ..)
    have h1 : ¬ b ≤ x.1 := by omega
    have h2 : x.1 ≠ b := by omega
    show itf b c false (x :: (p ++ q)) = _
    rw [itf_cons, if_neg (by simp [h1]), if_pos h2, decide_eq_false h1, Bool.or_false, itf_pre p q (fun y hy => h y (List.mem_cons_of_mem _ hy))]
    rfl
theorem itf_gt {ys : List It} (h : ∀ y ∈ ys, b < y.1) : itf b c true ys = ys := by
  rw [itf_true]
  exact List.filter_eq_self.2 fun y hy => decide_eq_true (by have := h y hy; omega)
theorem gt_tail (hs : xs.Pairwise (fun a b => a.1 < b.1)) (hi : i < xs.length) (hk : b ≤ xs[i].1) : ∀ y ∈ xs.drop (i + 1), b < y.1 := by
  intro y hy
  obtain ⟨j, hj⟩ := List.getElem?_of_mem hy
  rw [List.getElem?_drop] at hj
  obtain ⟨hjl, rfl⟩ := List.getElem?_eq_some_iff.1 hj
  have := List.pairwise_iff_getElem.1 hs i (i + 1 + j) hi hjl (by omega)
  omega
theorem itf_put (hs : xs.Pairwise (fun a b => a.1 < b.1)) (h : BsR (fun x : It => x.1) xs b i true) : ∃ hi : i < xs.length, xs[i].1 = b ∧ itf b c false xs = xs.set i (b, c) := by
  obtain ⟨hi, hk⟩ := h.2.2.2.1 rfl
  replace hk : xs[i].1 = b := hk
  refine ⟨hi, hk, ?_⟩
  conv => lhs; rw [← List.take_append_drop i xs, itf_pre _ _ h.2.1, List.drop_eq_getElem_cons hi]
  rw [itf_cons, if_pos (by simp [hk]), if_neg (by simpa using hk), decide_eq_true (by omega : b ≤ xs[i].1), Bool.or_true, itf_gt (gt_tail hs hi (by omega)), List.set_eq_take_append_cons_drop, if_pos hi]
  rfl
theorem itf_ins (hs : xs.Pairwise (fun a b => a.1 < b.1)) (h : BsR (fun x : It => x.1) xs b i false) : itf b c false xs = xs.take i ++ (b, c) :: xs.drop i := by
  conv => lhs; rw [← List.take_append_drop i xs, itf_pre _ _ h.2.1]
  congr 1
  rcases Nat.lt_or_ge i xs.length with hi | hi
  · have hk : b ≤ xs[i].1 := h.2.2.1 hi
    have hne : xs[i].1 ≠ b := h.no (key := fun x : It => x.1) hs rfl _ (List.getElem_mem hi)
    rw [List.drop_eq_getElem_cons hi]
    rw [itf_cons, if_pos (by simp [hk]), if_pos hne, decide_eq_true hk, Bool.or_true, itf_gt (gt_tail hs hi hk)]
    rfl
  · rw [List.drop_eq_nil_of_le hi]; rfl
theorem itf_del (hs : xs.Pairwise (fun a b => a.1 < b.1)) (h : BsR (fun x : It => x.1) xs b i true) : i < xs.length ∧ itf b c true xs = xs.take i ++ xs.drop (i + 1) := by
  obtain ⟨hi, hk⟩ := h.2.2.2.1 rfl
  replace hk : xs[i].1 = b := hk
  refine ⟨hi, ?_⟩
  rw [itf_true]
  conv => lhs; rw [← List.take_append_drop i xs, List.drop_eq_getElem_cons hi]
  have e1 : (xs.take i).filter (fun x => decide (x.1 ≠ b)) = xs.take i := List.filter_eq_self.2 fun y hy => decide_eq_true (by have : y.1 < b := h.2.1 y hy; omega)
  have e2 : (xs.drop (i + 1)).filter (fun x => decide (x.1 ≠ b)) = xs.drop (i + 1) := List.filter_eq_self.2 fun y hy => decide_eq_true (by have := gt_tail hs hi (Int.le_of_eq hk.symm) y hy; omega)
  rw [List.filter_append, List.filter_cons_of_neg (by simp [hk]), e1, e2]
theorem itf_same (hs : xs.Pairwise (fun a b => a.1 < b.1)) (h : BsR (fun x : It => x.1) xs b i false) : itf b c true xs = xs := by
  rw [itf_true]
  exact List.filter_eq_self.2 fun y hy => decide_eq_true (h.no (key := fun x : It => x.1) hs rfl y hy)
end
open Go
def addD (D : List Deferred) (a : Act) : Act := { a with defers := a.defers ++ D }
section
variable {P : Program} {n : Nat} {Q : Exit → Act → World → Prop} {f : Sl} {w : World} {ops : Array Oper} {D : List Deferred}
theorem put_addD {a : Act} {d : Option Tmp} {v : Value} : (addD D a).put d v = addD D (a.put d v) := by cases d <;> rfl
theorem putd_addD {a : Act} {d : Option Tmp} {v : Value} {x : Deferred} : Act.put { addD D a with defers := x :: (addD D a).defers } d v = addD D (Act.put { a with defers := x :: a.defers } d v) := by cases d <;> rfl
theorem owp_addD {o : Oper} {a : Act} {w : World} {next : Act → World → Prop} (hh : o.wp P a w (fun a' w' => next (addD D a') w') (fun e a' w' => Q e (addD D a') w')) : o.wp P (addD D a) w next Q := by
  unfold Oper.wp at *
  have he : execOp (addD D a).eval o = execOp a.eval o := rfl
  rw [he]
  generalize (execOp a.eval o).run P w = r at *
  cases r with
  | ok n w' =>
    cases n <;> simp only [Oper.upon, put_addD, putd_addD] at hh ⊢ <;>
      first
        | exact hh
        | exact Calls.mono hh (fun e w'' he => by cases e <;> first | exact he | exact (let ⟨a, w, x⟩ := he; ⟨addD D a, w, x⟩))
        | exact Rows.mono hh (fun _ _ he => he)
  | halt x w' => cases x <;> simp only [Oper.upon] at hh ⊢ <;> exact hh
theorem any_addD {S : World → Prop} (hno : ¬ LetsOut fun e a' w' => Q e (addD D a') w') : ∀ (k : Nat) (l : Array Bool) (a : Act) (w : World), wpAnyH P .any ops (fun e a' w' => Q e (addD D a') w') S k l a w → wpAnyH P .any ops Q S k l (addD D a) w
  | 0, _, _, _, h => h
  | k + 1, l, a, w, h => ⟨h.1, fun i hi => by
    have := h.2 i hi
    unfold wpOp at this ⊢
    cases ho : ops[i]? with
    | none => simp only [ho] at this ⊢; exact ⟨this.1, any_addD hno k _ _ _ this.2⟩
    | some o =>
      simp only [ho] at this ⊢
      have hy : (yielded ops (addD D a).tmps) = yielded ops a.tmps := rfl
      rw [hy, put_addD]
      split
      · rename_i hw
        rw [if_pos hw] at this
        rcases this with h1 | h1
        · exact .inl (owp_addD (owp_mono (fun a' w' hk => ⟨hk.1, any_addD hno k _ _ _ hk.2⟩) (fun _ _ _ _ h => h) h1))
        · exact absurd h1.2 hno
      · rename_i hw
        rw [if_neg hw] at this
        exact ⟨this.1, any_addD hno k _ _ _ this.2⟩⟩
theorem rgxD {id k : Nat} {ol : List Oper} {Q3 : Po} (S : World → Prop) (l : List Bool) (hm : P.follows .mixedOrders = true) (hl : Array.replicate ol.toArray.size false = l.toArray) (hk : ol.toArray.size = k) {C : World → Prop} (hC : C { w with drawn := w.drawn + 1 })
    (h : ∀ w, C w → WX P n ol.toArray S Q3 k l f w) (hp : ∀ g w, Q3 .normal g w → Q .normal (addD D (mkA n g)) w) : (Code.region id ol.toArray true).wp P Q (addD D (mkA n f)) w := by
  have h1 : (Code.region id ol.toArray true).wp P (fun e a w => ∃ b, a = addD D b ∧ Nq n Q3 e b w) (addD D (mkA n f)) w := by
    refine wp_region_held (S := S) hm ?_
    rw [hl, hk]
    have hm' : ∀ (k : Nat) (l : Array Bool) (a : Act) (w : World), wpAnyH P .any ol.toArray (Nq n Q3) S k l a w → wpAnyH P .any ol.toArray (fun e a' w' => ∃ b, addD D a' = addD D b ∧ Nq n Q3 e b w') S k l a w := by
      intro k
      induction k with
      | zero => intro l a w h; exact ⟨h.1, a, rfl, h.2⟩
      | succ k ih => intro l a w h; exact ⟨fun hr => ⟨a, rfl, h.1 hr⟩, fun i hi => by
          have := h.2 i hi
          unfold wpOp at this ⊢
          cases ho : ol.toArray[i]? with
          | none => simp only [ho] at this ⊢; exact ⟨this.1, ih _ _ _ this.2⟩
          | some o =>
            simp only [ho] at this ⊢
            split
            · rename_i hw
              rw [if_pos hw] at this
              rcases this with h1 | h1
              · exact .inl (owp_mono (fun a' w' hk => ⟨hk.1, ih _ _ _ hk.2⟩) (fun e a w _ h => ⟨a, rfl, h⟩) h1)
              · obtain ⟨_, _, _, h, _⟩ := h1; cases h
            · rename_i hw
              rw [if_neg hw] at this
              exact ⟨this.1, ih _ _ _ this.2⟩⟩
    refine any_addD ?_ _ _ _ _ (hm' _ _ _ _ (h _ hC))
    rintro ⟨_, _, _, _, h, _⟩
    cases h
  refine wp_mono h1 ?_
  rintro e a w ⟨b, rfl, rfl, g, rfl, hq⟩
  exact hp g w hq
theorem valA {rest : List Oper} {o : Oper} {v : Value} {w' : World} (hg : o.guard = none) (hrun : (execOp (ev n f) o).run P w = .ok (.value v) w')
    (h : wpList P ops Q rest (mkA n (updO f o.dst v)) w') : wpList P ops Q (o :: rest) (mkA n f) w := by
  refine wpList_plain hg fun K hK => ?_
  show o.upon P _ _ _ ((execOp (mkA n f).eval o).run P w)
  rw [mkA_evalF, hrun]
  show K ((mkA n f).put o.dst v) w'
  rw [mkA_put]; exact hK _ _ h
theorem dfA {rest : List Oper} {F : FuncId} {x : Operand} {ts : Array TypeId} {ty : TypeId} {pos : String} {af : Array Edge} {u : Value} (hx : ev n f x = u)
    (h : wpList P ops Q rest (addD [{ target := .fn (.func F) #[], args := #[u] }] (mkA n f)) w) : wpList P ops Q (⟨none, .defer ⟨.value (.func F), #[x], ts⟩, ty, pos, af, none⟩ :: rest) (mkA n f) w := by
  refine wpList_plain rfl fun K hK => ?_
  show Oper.upon P _ _ _ _ ((execOp (mkA n f).eval _).run P w)
  rw [mkA_evalF]
  have hF : ev n f (.func F) = .func (.func F) #[] #[] := rfl
  have e1 : (execOp (ev n f) ⟨none, .defer ⟨.value (.func F), #[x], ts⟩, ty, pos, af, none⟩).run P w = .ok (.defer { target := .fn (.func F) #[], args := #[u] }) w := by
    unfold execOp
    simp only [resolve, hF, Deferred.ofValue, Sem.run_bind, Sem.run_pure, Result.andThen_ok, List.map_toArray, List.map_cons, List.map_nil, hx]
    rfl
  rw [e1]
  exact hK _ _ h
theorem sqA {c x : Code} (h : W P n c (fun e f w => e = .normal ∧ x.wp P Q (mkA n f) w) f w) : (Code.seq c x).wp P Q (mkA n f) w :=
  wp_seq (wp_mono h (by rintro e a w ⟨g, rfl, rfl, hx⟩; exact hx))
theorem act_ini {fn : Func} {args : List Value} (hn : fn.ntmps = n) (hl : Nat.ble args.length n = true) : ({ tmps := args.toArray ++ Array.replicate (fn.ntmps - args.toArray.size) undef, defers := [] } : Act) = mkA n (ini args) := by
  have hle : args.length ≤ n := Nat.le_of_ble_eq_true hl
  rw [hn]
  simp only [mkA]
  congr 1
  apply Array.ext
  · simp; omega
  · intro i h1 h2
    simp only [Array.getElem_map, Array.getElem_range, ini_getD]
    by_cases hi : i < args.length
    · rw [Array.getElem_append_left (by simpa using hi)]
      simp [List.getD, hi]
    · rw [Array.getElem_append_right (by simpa using hi)]
      simp [List.getD, List.getElem?_eq_none (Nat.le_of_not_lt hi)]
theorem enterDf {F : FuncId} {fn : Func} {c : Code} {args : List Value} {R : Ending → World → Prop} (hf : P.funcs[F]? = some fn) (hb : fn.body = some c) (hn : fn.ntmps = n) (hl : Nat.ble args.length n = true)
    (h : c.wp P (bodyPostD P fn R) (mkA n (ini args)) w) : Calls P F args.toArray w R := by
  refine calls_of_wp_defers hf hb ?_
  rw [act_ini hn hl]; exact h
theorem K.set0 {e w : World} {G : View} {L : Own} {b t : Nat} {v u : Value} {l : List Value} (hK : K e w G ((b, row (v :: l) t) :: L)) : K e (w.setCell ⟨b, 0, none⟩ u) G ((b, row (u :: l) t) :: L) := by
  have hb := hK.own b _ (List.mem_cons_self ..)
  have hs := setCell_eq_setRow w b 0 (v :: l).toArray t (0, 0) u hb
  rw [hs]
  have this : K e (w.setRow b ((v :: l).toArray.setIfInBounds 0 u)) G ((b, .cells ((v :: l).toArray.setIfInBounds 0 u) t (0, 0)) :: L) := K.write (L := L) hK rfl rfl rfl (setRow_heap w b (v :: l).toArray ((v :: l).toArray.setIfInBounds 0 u) t (0, 0) hb) (fun k' hk' x hx => by rw [setRow_other w b k' _ hk']; exact hx)
  have e1 : (v :: l).toArray.setIfInBounds 0 u = (u :: l).toArray := by simp
  rw [e1] at this ⊢
  exact this
end
open Go
abbrev Ev := Int × Int × Int × Int
def evc (x : Ev) : List Value := [.int .i64 x.1, .int .i64 x.2.1, .int .i64 x.2.2.1, .int .i64 x.2.2.2]
abbrev EvS := SlR 4 (EF evc)
noncomputable def doE (w : Wd) (x : Ev) : Wd := doW w x.1 x.2.1 x.2.2.1 x.2.2.2
noncomputable def plE (w : Wd) (es : List Ev) : Wd := es.foldl doE w
noncomputable def plF (xs : List Int) (es : List Ev) : Wd := plE (newW xs) es
def PlOk (xs : List Int) (es : List Ev) : Prop := (NdsOk xs ∧ 3 ≤ xs.length) ∧ es.length ≤ 80
def calN (n : Int) : Int := min (n + 21) 999
def calW (w : Wd) : Wd := ⟨calN w.now, idl (ids w.ring), (ids w.ring).map (fun k => (k, k, utl (calN w.now))), w.items, w.scan, w.since⟩
noncomputable def calF (w : Wd) : Wd := if dec (WdOk w) = true then calW w else wdZ
theorem calF_no {w : Wd} (h : ¬ WdOk w) : calF w = wdZ := by unfold calF; rw [if_neg (by rw [dec_f h]; simp)]
theorem calF_yes {w : Wd} (h : WdOk w) : calF w = calW w := if_pos (dec_t h)
theorem nds_ids {r : List Nd} (h : RgSafe r) : NdsOk (ids r) := ⟨⟨by have := ids3 h; omega, by rw [ids_len]; exact h.1.1⟩, ids_asc h.1⟩
theorem calN_tm {n : Int} (h : Tm n) : Tm (calN n) := by unfold Tm calN at *; omega
theorem calW_ok {w : Wd} (h : WdOk w) : WdOk (calW w) :=
  ⟨calN_tm h.1, idl_safe (nds_ids h.2.1) (ids3 h.2.1), newLs_ok (nds_ids h.2.1) (utl_tm (calN_tm h.1)), h.2.2.2.1, h.2.2.2.2.1, h.2.2.2.2.2.1, h.2.2.2.2.2.2⟩
def Sct (ls : List Ls) (ks : List Int) (i : Nat) (s : Sn) : Prop := ∃ j, j ≤ i ∧ s = itr ls ks j ∧ (∀ l, l < j → (itr ls ks l).1 < 64) ∧ (s.1 = 64 ∨ j = i)
theorem doW_scan (w : Wd) (a b c : Int) : doW w 14 a b c = scW w := by
  unfold doW; rw [if_neg (by omega), if_neg (by omega), if_neg (by omega), if_neg (by omega), if_pos rfl]
end Go.Ro
