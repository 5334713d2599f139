/- make of a slice. Maps from int to int, made by the walk itself. Puzzles, in plain numbers. Answers of paths, in plain lists. Slices of slices; calls of function values. Conditions: those that each row states. -/
import Derived.Test.YtmgggljicpmndaaGreatXr
namespace Go.Ro
open Go
theorem flat_get {α : Type} (zl : List α) (m : Nat) (_ : 0 < zl.length) : ∀ j, j < m * zl.length → (List.replicate m zl).flatten[j]? = zl[j % zl.length]? := by
  induction m with
  | zero => intro j h; simp at h
  | succ m ih =>
    intro j h
    rw [List.replicate_succ, List.flatten_cons, List.getElem?_append]
    split
    · rename_i hj; rw [Nat.mod_eq_of_lt hj]
    · rename_i hj
      rw [Nat.succ_mul] at h
      rw [ih (j - zl.length) (by omega), ← Nat.mod_eq_sub_mod (show zl.length ≤ j by omega)]
section
variable {P : Program} {n : Nat} {Q : Po} {f : Sl} {w : World} {ops : Array Oper} {rest : List Oper}
  {d : Nat} {ty : TypeId} {pos : String} {af : Array Edge} {e : World} {G : View} {L : Own}
theorem mks {T E' sz bytes m : Nat} {z : Value} {zl : List Value} {x y : Operand} (hK : K e w G L) (hT : P.underlying T = some (.slice E')) (hi : Inf P E' z sz bytes) (hz : z.cells = zl.toArray) (hl : zl.length = sz) (hsz : Nat.ble 1 sz = true)
    (hx : ev n f x = .int .i64 (m : Int)) (hy : ev n f y = .int .i64 (m : Int)) (hm : m ≤ 100000000) (hby : Nat.ble bytes 1000 = true)
    (h : ∀ b w1, OS sz E' (.slice (some ⟨b, 0, none⟩) m m) m (List.replicate m zl).flatten [(b, row (List.replicate m zl).flatten E')] → K e w1 G ((b, row (List.replicate m zl).flatten E') :: L) →
      WL P n ops Q rest (upd f d (.slice (some ⟨b, 0, none⟩) m m)) w1) :
    WL P n ops Q (⟨some d, .makeSlice T x y, ty, pos, af, none⟩ :: rest) f w := by
  obtain ⟨i, g1, g2, g3, g4⟩ := hi.get
  have hb1 : bytes ≤ 1000 := Nat.le_of_ble_eq_true hby
  have hs1 : 1 ≤ sz := Nat.le_of_ble_eq_true hsz
  have hlen : (List.replicate m zl).flatten.length = m * sz := by rw [List.length_flatten, List.map_replicate, List.sum_replicate_nat, hl]
  have hrow : row (List.replicate m zl).flatten E' = Obj.cells ((Array.range (m * sz)).map fun k => z.cells[k % z.cells.size]!) E' (0, 0) := by
    unfold row
    congr 1
    apply Array.ext
    · simp [hlen]
    · intro j h1 h2
      have hj : j < m * sz := by simpa using h2
      have hg := flat_get zl m (by omega) j (by rw [hl]; exact hj)
      have hmod : j % zl.length < zl.length := Nat.mod_lt _ (by omega)
      have h3 : (List.replicate m zl).flatten[j]'(by rw [hlen]; exact hj) = zl[j % zl.length] := by
        have e1 : (List.replicate m zl).flatten[j]? = some (List.replicate m zl).flatten[j] := List.getElem?_eq_getElem (by rw [hlen]; exact hj)
        rw [e1, List.getElem?_eq_getElem hmod] at hg
        exact Option.some.inj hg
      simp only [List.getElem_toArray, Array.getElem_map, Array.getElem_range, hz, List.size_toArray]
      rw [h3]
      simp [hmod]
  refine vl ?_ (h w.heap.size (w.alloc (row (List.replicate m zl).flatten E')) (OS.lit hlen (by omega)) (hK.alloc _))
  have hbm := Nat.mul_le_mul hb1 hm
  have hbm' : bytes * m ≤ 100000000000 := hbm
  have h1 : IntKind.i64.wrap (m : Int) = (m : Int) := wrap64_in (show (-9223372036854775808 : Int) ≤ _ by omega) (show _ ≤ (9223372036854775807 : Int) by omega)
  have hbmi : ((bytes : Int) * (m : Int)) ≤ 100000000000 := by rw [← Int.natCast_mul]; omega
  have ht : ¬ ((m : Int) < 0 ∨ (281474976710656 : Int) < (bytes : Int) * (m : Int)) := by omega
  have hroom : ¬ (m * bytes > roomBytes) := by
    rw [Nat.mul_comm]
    show ¬ (bytes * m > 140737488355328)
    omega
  unfold St execOp
  have hnz : (m * sz = 0) ∨ ¬ (m * sz = 0) := by omega
  have hzv : (zeroValue E').run P w = .ok z w := by simp [zeroValue, typeInfo, g1, g2]
  rw [hrow]
  have hmi : ¬ (m : Int) < 0 := by omega
  have hti : ¬ (281474976710656 : Int) < (bytes : Int) * (m : Int) := by omega
  rcases hnz with h0 | h0
  · have hm0 : m = 0 := by
      rcases Nat.mul_eq_zero.1 h0 with h | h
      · exact h
      · omega
    subst hm0
    simp [hx, hy, Instr.makeSlice, run_underlying hT, asInt, asIntOf, typeInfo, g1, sizeOf, newRow, askRoom, roomBytes, IntKind.wrap_i64]
    have hq : ∀ q : Nat → Value, (Array.range 0).map q = #[] := fun q => Array.eq_empty_of_size_eq_zero (by simp)
    rw [hq, hq]
  · simp only [hx, hy, Instr.makeSlice, Sem.run_bind, run_underlying hT, Result.andThen_ok, asInt, asIntOf, Sem.run_pure, typeInfo, run_program, g1, g4, h1]
    simp [hmi, hti, askRoom, hroom, sizeOf, typeInfo, g1, g3, h0, hzv, newRow]
theorem soi {T b o t : Nat} {x y : Operand} {l : List Value} {v : Value} {sz by' : Nat} {z : Value} (hK : K e w G L) (hi : Inf P T z sz by') (hs : Nat.beq sz 1 = true) (k : Nat) (hn : L[k]? = some (b, row l t))
    (hp : ev n f x = .pointer (some ⟨b, o, none⟩)) (hv : ev n f y = v) (h1 : one v = true) (ho : o < l.length) {dst : Option Tmp}
    (h : ∀ w1, K e w1 G (L.set k (b, row (l.set o v) t)) → WL P n ops Q rest (updO f dst undef) w1) :
    WL P n ops Q (⟨dst, .store T x y, ty, pos, af, none⟩ :: rest) f w :=
  so hK hi hs k hn hp hv h1 (Nat.ble_eq_true_of_le ho) h
theorem soSi {T b o t : Nat} {x y : Operand} {l vs : List Value} {sz by' : Nat} {z : Value} (hK : K e w G L) (hi : Inf P T z sz by') (k : Nat) (hn : L[k]? = some (b, row l t))
    (hp : ev n f x = .pointer (some ⟨b, o, none⟩)) (hv : ev n f y = .agg vs.toArray) (hl : vs.length = sz) (h1' : vs.all one = true) (ho : o + vs.length ≤ l.length) {dst : Option Tmp}
    (h : ∀ w1, K e w1 G (L.set k (b, row (l.take o ++ vs ++ l.drop (o + vs.length)) t)) → WL P n ops Q rest (updO f dst undef) w1) :
    WL P n ops Q (⟨dst, .store T x y, ty, pos, af, none⟩ :: rest) f w :=
  soS hK hi k hn hp hv hl h1' (Nat.ble_eq_true_of_le ho) h
end
def ints (xs : List Int) : List Value := xs.map (.int .i64)
@[simp] theorem ints_len (xs : List Int) : (ints xs).length = xs.length := by simp [ints]
theorem K.pubI {e w : World} {G : View} {L : Own} {b t c : Nat} {xs : List Int} (hK : K e w G ((b, row (ints xs) t) :: L)) (h1 : xs.length ≤ c) (h2 : c ≤ 1000000000) :
    ∃ G', VLe G G' ∧ IntS G' (.slice (some ⟨b, 0, none⟩) xs.length c) xs ∧ K e w G' L := by
  refine ⟨addV G [(b, row (ints xs) t)], K.addV_le (A := [(b, row (ints xs) t)]) hK, ?_, K.pub (A := [(b, row (ints xs) t)]) hK⟩
  refine ⟨⟨_, c, rfl, h1, by unfold maxLen; omega, .inr ⟨_, _, rfl⟩⟩, fun i x hx => ⟨[.int .i64 x], rfl, fun j u hj => ?_, rfl⟩⟩
  have hj0 : j = 0 := by have := (List.getElem?_eq_some_iff.1 hj).1; simp at this; exact this
  subst hj0
  simp at hj; subst hj
  have hg : addV G [(b, row (ints xs) t)] b = some (row (ints xs) t) := addV_mem (by simp) (List.mem_cons_self ..)
  unfold cellV
  simp only [elA, hg, Nat.zero_add, Nat.mul_one, Nat.add_zero]
  simp [row, ints, hx]
theorem K.pubO {e w : World} {G : View} {L A : Own} {t : Nat} {v : Value} {xs : List Int} (hK : K e w G (A ++ L)) (ho : OS 1 t v xs.length (ints xs) A) :
    ∃ G', VLe G G' ∧ IntS G' v xs ∧ K e w G' L := by
  refine ⟨addV G A, hK.addV_le, ?_, hK.pub⟩
  refine OS.pub ho ho.nodup fun i x hx => ⟨[.int .i64 x], rfl, fun j u hj => ?_, rfl⟩
  have hj0 : j = 0 := by have := (List.getElem?_eq_some_iff.1 hj).1; simp at this; exact this
  subst hj0
  simp at hj; subst hj
  simp [ints, hx]
open Go
def ups : List (Int × Int) → Int → Int → List (Int × Int)
  | [], k, v => [(k, v)]
  | (a, b) :: l, k, v => if a = k then (k, v) :: l else (a, b) :: ups l k v
def lkI : List (Int × Int) → Int → Option Int
  | [], _ => none
  | (a, b) :: l, k => if a = k then some b else lkI l k
theorem lkI_ups (l : List (Int × Int)) (k v j : Int) : lkI (ups l k v) j = if j = k then some v else lkI l j := by
  induction l with
  | nil => simp only [ups, lkI]; by_cases h : k = j <;> simp [h]; intro h'; exact absurd h'.symm h
  | cons p l ih =>
    obtain ⟨a, b⟩ := p
    unfold ups
    by_cases h : a = k
    · subst h
      rw [if_pos rfl]
      simp only [lkI]
      by_cases h' : a = j
      · subst h'; simp
      · rw [if_neg h', if_neg h', if_neg (fun e => h' e.symm)]
    · rw [if_neg h]
      simp only [lkI]
      by_cases h' : a = j
      · subst h'; simp [h]
      · rw [if_neg h', if_neg h', ih]
def enE (p : Int × Int) : Value × Value := (.int .i64 p.1, .int .i64 p.2)
def MI (o : Obj) (l : List (Int × Int)) : Prop := ∃ es c, o = .map es c ∧ es.toList.map (fun e => (e.key, e.val)) = l.map enE
theorem MI.nil : MI (.map #[] 0) [] := ⟨_, _, rfl, rfl⟩
section
variable {P : Program} {n : Nat} {Q : Po} {f : Sl} {w : World} {ops : Array Oper} {rest : List Oper}
  {d : Nat} {dst : Option Tmp} {ty : TypeId} {pos : String} {af : Array Edge} {g : Option (Nat × Bool)} {e : World} {G : View} {L : Own}
end
def pzN (id nonce : Int) : Int := (31 * id + 17 * nonce + 5) % 1009
def pzHash (id nonce : Int) : Int := pzN id nonce * (pzN id nonce + nonce + 7) % 1009
def pzVal (id nonce : Int) : Int := if (0 ≤ id ∧ id ≤ 63) ∧ 0 ≤ nonce ∧ nonce ≤ 255 then pzHash id nonce else -1
def pzOk (id nonce bits : Int) : Prop := (0 ≤ id ∧ id ≤ 63) ∧ (0 ≤ nonce ∧ nonce ≤ 255) ∧ (0 ≤ bits ∧ bits ≤ 5) ∧ pzHash id nonce % 2 ^ bits.toNat = 0
instance (id nonce bits : Int) : Decidable (pzOk id nonce bits) := by unfold pzOk; infer_instance
def PzSol (id bits r : Int) : Prop := (r = -1 ∧ ∀ j : Int, 0 ≤ j → j ≤ 255 → ¬ pzOk id j bits) ∨ (0 ≤ r ∧ pzOk id r bits ∧ ∀ j : Int, 0 ≤ j → j < r → ¬ pzOk id j bits)
theorem PzSol.uniq {id bits r s : Int} (h : PzSol id bits r) (h' : PzSol id bits s) : r = s := by
  rcases h with ⟨rfl, h⟩ | ⟨h0, h1, h2⟩ <;> rcases h' with ⟨rfl, h'⟩ | ⟨g0, g1, g2⟩
  · rfl
  · exact absurd g1 (h s g0 g1.2.1.2)
  · exact absurd h1 (h' r h0 h1.2.1.2)
  · rcases Int.lt_trichotomy r s with h | h | h
    · exact absurd h1 (g2 r h0 h)
    · exact h
    · exact absurd g1 (h2 s g0 h)
theorem pow_mod {h : Int} {c b : Nat} (hcb : c ≤ b) (hh : h % 2 ^ b = 0) : h % 2 ^ c = 0 := by
  have h1 : (2 : Int) ^ b ∣ h := Int.dvd_of_emod_eq_zero hh
  have h2 : (2 : Int) ^ c ∣ 2 ^ b := ⟨2 ^ (b - c), by rw [← Int.pow_add]; congr 1; omega⟩
  exact Int.emod_eq_zero_of_dvd (Int.dvd_trans h2 h1)
theorem pzOk.le {id n b c : Int} (h : pzOk id n b) (h0 : 0 ≤ c) (hc : c ≤ b) : pzOk id n c :=
  ⟨h.1, h.2.1, ⟨h0, Int.le_trans hc h.2.2.1.2⟩, pow_mod (by omega) h.2.2.2⟩
theorem PzSol.zero {id n b s : Int} (h : pzOk id n b) (hs : PzSol id 0 s) : s = 0 := by
  have h0 : pzOk id 0 0 := ⟨h.1, by decide, by decide, by simp⟩
  rcases hs with ⟨_, g⟩ | ⟨g0, g1, g2⟩
  · exact absurd h0 (g 0 (by omega) (by omega))
  · rcases Int.lt_or_eq_of_le g0 with g | g
    · exact absurd h0 (g2 0 (by omega) g)
    · exact g.symm
theorem PzSol.ok {id b r : Int} (h : PzSol id b r) (h0 : 0 ≤ r) : pzOk id r b := by
  rcases h with ⟨rfl, _⟩ | ⟨_, h1, _⟩
  · omega
  · exact h1
theorem PzSol.not {id b r : Int} (h : PzSol id b r) (j : Int) (h0 : 0 ≤ j) (hj : j ≤ 255) (hr : r < 0 ∨ j < r) : ¬ pzOk id j b := by
  rcases h with ⟨rfl, g⟩ | ⟨g0, _, g⟩
  · exact g j h0 hj
  · exact g j h0 (by omega)
theorem count_two {a b : Int} (h : a ≠ b) : ∀ l : List Int, l.count a + l.count b ≤ l.length
  | [] => by simp
  | x :: l => by
    have ih := count_two h l
    simp only [List.count_cons, List.length_cons, beq_iff_eq]
    split <;> split <;> omega
def Maj (xs : List Int) (r : Int) : Prop := (7 < xs.length ∧ r = -1) ∨ (xs.length ≤ 7 ∧ (xs.length < 2 * xs.count r ∨ (r = -1 ∧ ∀ a, 2 * xs.count a ≤ xs.length)))
theorem Maj.uniq {xs : List Int} {r s : Int} (h : Maj xs r) (h' : Maj xs s) : r = s := by
  rcases h with ⟨h1, rfl⟩ | ⟨h1, h⟩ <;> rcases h' with ⟨g1, rfl⟩ | ⟨g1, g⟩
  · rfl
  · omega
  · omega
  · rcases h with h | ⟨rfl, h⟩ <;> rcases g with g | ⟨rfl, g⟩
    · by_cases hrs : r = s
      · exact hrs
      · have := count_two hrs xs; omega
    · have := g r; omega
    · have := h s; omega
    · rfl
theorem Maj.mem {xs : List Int} {s : Int} (h : Maj xs s) : s = -1 ∨ s ∈ xs := by
  rcases h with ⟨_, h⟩ | ⟨_, h | ⟨h, _⟩⟩
  · exact .inl h
  · exact .inr (List.count_pos_iff.1 (by omega))
  · exact .inl h
open Go
/-! a slice whose elements are slices (or pointers) with a reading of their own -/
def ES {α : Type} (E : View → Value → α → Prop) (G : View) (cs : List Value) (x : α) : Prop := ∃ u, cs = [u] ∧ E G u x
abbrev SS {α : Type} (E : View → Value → α → Prop) := SlR 1 (ES E)
abbrev ISS := SS IntS
section
variable {α : Type} {E : View → Value → α → Prop} {G G' : View} {v : Value} {xs : List α}
theorem ES.mono (hm : ∀ u x, E G u x → E G' u x) {cs : List Value} {x : α} (h : ES E G cs x) : ES E G' cs x := let ⟨u, h1, h2⟩ := h; ⟨u, h1, hm u x h2⟩
theorem SS.mono (hm : ∀ u x, E G u x → E G' u x) (h : SS E G v xs) (hG : VLe G G') : SS E G' v xs := SlR.mono (fun _ _ => ES.mono hm) h hG
theorem SS.at (h : SS E G v xs) {i : Nat} (hi : i < xs.length) : ∃ u, cellV G (elA v i) = some u ∧ E G u xs[i] := by
  obtain ⟨cs, h1, h2, u, h3, h4⟩ := h.get hi
  refine ⟨u, ?_, h4⟩
  have := h2 0 u (by rw [h3]; rfl)
  simpa using this
end
theorem ISS.mono {G G' : View} {v : Value} {xs : List (List Int)} (h : ISS G v xs) (hG : VLe G G') : ISS G' v xs := SS.mono (fun _ _ h => IntS.mono h hG) h hG
theorem K.pubS {α : Type} {E : View → List Value → α → Prop} {e w : World} {G : View} {L A : Own} {sz t : Nat} {v : Value} {cs : List Value} {xs : List α} (hm : ∀ {G G' cs x}, VLe G G' → E G cs x → E G' cs x)
    (hK : K e w G (A ++ L)) (ho : OS sz t v xs.length cs A) (hE : ∀ i x, xs[i]? = some x → ∃ u, u.length = sz ∧ (∀ j c, u[j]? = some c → cs[i * sz + j]? = some c) ∧ E G u x) :
    ∃ G', VLe G G' ∧ SlR sz E G' v xs ∧ K e w G' L := by
  refine ⟨addV G A, hK.addV_le, ?_, hK.pub⟩
  refine OS.pub ho ho.nodup fun i x hx => ?_
  obtain ⟨u, h1, h2, h3⟩ := hE i x hx
  exact ⟨u, h1, h2, hm hK.addV_le h3⟩
section
variable {P : Program} {n : Nat} {Q : Po} {f : Sl} {w : World} {ops : Array Oper} {rest : List Oper}
  {dst : Option Nat} {ty : TypeId} {pos : String} {af : Array Edge} {C : World → Prop} {R : Sl → Prop}
theorem mkf {F : FuncId} {l : List Operand} {vs : List Value} (ha : l.map (ev n f) = vs) {g : Option (Nat × Bool)} :
    St P n ⟨dst, .makeFunc (.func F) #[] l.toArray, ty, pos, af, g⟩ f w (.func (.func F) #[] vs.toArray) w := by
  unfold St execOp
  simp [Instr.makeFunc, ha]
theorem cf {F : FuncId} {x : Operand} {l : List Operand} {ts : Array TypeId} {vs cap : List Value} {S : Value → World → Prop} (hf : ∀ args w, (callFunc F args).run P w = .ok (.enter F args) w)
    (hx : ev n f x = .func (.func F) #[] cap.toArray) (ha : l.map (ev n f) = vs) (hc : Ret P F (vs ++ cap).toArray w S)
    (h : ∀ v w', S v w' → WL P n ops Q rest (updO f dst v) w') :
    WL P n ops Q (⟨dst, .call ⟨.value x, l.toArray, ts⟩, ty, pos, af, none⟩ :: rest) f w := by
  refine cal (F := F) (args := (vs ++ cap).toArray) (w' := w) (R := S) rfl ?_ hc h
  unfold execOp
  simp only [resolve, hx, Deferred.ofValue, Sem.run_bind, Sem.run_pure, Result.andThen_ok, invoke, List.map_toArray, ha, List.append_toArray, List.nil_append]
  exact hf _ _
end
end Go.Ro
