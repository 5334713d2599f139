/- make of a slice. Conditions: those that each row states. -/
import Derived.Test.YtbkfnnifkdgbkaaXr
namespace Go.Ro
open Go

theorem flat_get {α : Type} (zl : List α) (m : Nat) (_ : 0 < zl.length) : ∀ j, j < m * zl.length → (List.replicate m zl).flatten[j]? = zl[j % zl.length]? := by
  induction m with
  | zero => intro j h; simp at h
  | succ m ih =>
    intro j h
    rw [List.replicate_succ, List.flatten_cons, List.getElem?_append]
    split
    · rename_i hj; rw [Nat.mod_eq_of_lt hj]
    · rename_i hj
      rw [Nat.succ_mul] at h
      rw [ih (j - zl.length) (by omega), ← Nat.mod_eq_sub_mod (show zl.length ≤ j by omega)]

section
variable {P : Program} {n : Nat} {Q : Po} {f : Sl} {w : World} {ops : Array Oper} {rest : List Oper}
  {d : Nat} {ty : TypeId} {pos : String} {af : Array Edge} {e : World} {G : View} {L : Own}

theorem mks {T E' sz bytes m : Nat} {z : Value} {zl : List Value} {x y : Operand} (hK : K e w G L) (hT : P.underlying T = some (.slice E')) (hi : Inf P E' z sz bytes) (hz : z.cells = zl.toArray) (hl : zl.length = sz) (hsz : Nat.ble 1 sz = true)
    (hx : ev n f x = .int .i64 (m : Int)) (hy : ev n f y = .int .i64 (m : Int)) (hm : m ≤ 100000000) (hby : Nat.ble bytes 1000 = true)
    (h : ∀ b w1, OS sz E' (.slice (some ⟨b, 0, none⟩) m m) m (List.replicate m zl).flatten [(b, row (List.replicate m zl).flatten E')] → K e w1 G ((b, row (List.replicate m zl).flatten E') :: L) →
      WL P n ops Q rest (upd f d (.slice (some ⟨b, 0, none⟩) m m)) w1) :
    WL P n ops Q (⟨some d, .makeSlice T x y, ty, pos, af, none⟩ :: rest) f w := by
  obtain ⟨i, g1, g2, g3, g4⟩ := hi.get
  have hb1 : bytes ≤ 1000 := Nat.le_of_ble_eq_true hby
  have hs1 : 1 ≤ sz := Nat.le_of_ble_eq_true hsz
  have hlen : (List.replicate m zl).flatten.length = m * sz := by rw [List.length_flatten, List.map_replicate, List.sum_replicate_nat, hl]
  have hrow : row (List.replicate m zl).flatten E' = Obj.cells ((Array.range (m * sz)).map fun k => z.cells[k % z.cells.size]!) E' (0, 0) := by
    unfold row
    congr 1
    apply Array.ext
    · simp [hlen]
    · intro j h1 h2
      have hj : j < m * sz := by simpa using h2
      have hg := flat_get zl m (by omega) j (by rw [hl]; exact hj)
      have hmod : j % zl.length < zl.length := Nat.mod_lt _ (by omega)
      have h3 : (List.replicate m zl).flatten[j]'(by rw [hlen]; exact hj) = zl[j % zl.length] := by
        have e1 : (List.replicate m zl).flatten[j]? = some (List.replicate m zl).flatten[j] := List.getElem?_eq_getElem (by rw [hlen]; exact hj)
        rw [e1, List.getElem?_eq_getElem hmod] at hg
        exact Option.some.inj hg
      simp only [List.getElem_toArray, Array.getElem_map, Array.getElem_range, hz, List.size_toArray]
      rw [h3]
      simp [hmod]
  refine vl ?_ (h w.heap.size (w.alloc (row (List.replicate m zl).flatten E')) (OS.lit hlen (by omega)) (hK.alloc _))
  have hbm := Nat.mul_le_mul hb1 hm
  have hbm' : bytes * m ≤ 100000000000 := hbm
  have h1 : IntKind.i64.wrap (m : Int) = (m : Int) := wrap64_in (show (-9223372036854775808 : Int) ≤ _ by omega) (show _ ≤ (9223372036854775807 : Int) by omega)
  have hbmi : ((bytes : Int) * (m : Int)) ≤ 100000000000 := by rw [← Int.natCast_mul]; omega
  have ht : ¬ ((m : Int) < 0 ∨ (281474976710656 : Int) < (bytes : Int) * (m : Int)) := by omega
  have hroom : ¬ (m * bytes > roomBytes) := by
    rw [Nat.mul_comm]
    show ¬ (bytes * m > 140737488355328)
    omega
  unfold St execOp
  have hnz : (m * sz = 0) ∨ ¬ (m * sz = 0) := by omega
  have hzv : (zeroValue E').run P w = .ok z w := by simp [zeroValue, typeInfo, g1, g2]
  rw [hrow]
  have hmi : ¬ (m : Int) < 0 := by omega
  have hti : ¬ (281474976710656 : Int) < (bytes : Int) * (m : Int) := by omega
  rcases hnz with h0 | h0
  · have hm0 : m = 0 := by
      rcases Nat.mul_eq_zero.1 h0 with h | h
      · exact h
      · omega
    subst hm0
    simp [hx, hy, Instr.makeSlice, run_underlying hT, asInt, asIntOf, typeInfo, g1, sizeOf, newRow, askRoom, roomBytes, IntKind.wrap_i64]
    have hq : ∀ q : Nat → Value, (Array.range 0).map q = #[] := fun q => Array.eq_empty_of_size_eq_zero (by simp)
    rw [hq, hq]
  · simp only [hx, hy, Instr.makeSlice, Sem.run_bind, run_underlying hT, Result.andThen_ok, asInt, asIntOf, Sem.run_pure, typeInfo, run_program, g1, g4, h1]
    simp [hmi, hti, askRoom, hroom, sizeOf, typeInfo, g1, g3, h0, hzv, newRow]

/-- a store at an index that is reckoned -/
theorem soi {T b o t : Nat} {x y : Operand} {l : List Value} {v : Value} {sz by' : Nat} {z : Value} (hK : K e w G L) (hi : Inf P T z sz by') (hs : Nat.beq sz 1 = true) (k : Nat) (hn : L[k]? = some (b, row l t))
    (hp : ev n f x = .pointer (some ⟨b, o, none⟩)) (hv : ev n f y = v) (h1 : one v = true) (ho : o < l.length) {dst : Option Tmp}
    (h : ∀ w1, K e w1 G (L.set k (b, row (l.set o v) t)) → WL P n ops Q rest (updO f dst undef) w1) :
    WL P n ops Q (⟨dst, .store T x y, ty, pos, af, none⟩ :: rest) f w :=
  so hK hi hs k hn hp hv h1 (Nat.ble_eq_true_of_le ho) h
end

/-- a row of numbers joins the view -/
def ints (xs : List Int) : List Value := xs.map (.int .i64)
@[simp] theorem ints_len (xs : List Int) : (ints xs).length = xs.length := by simp [ints]
theorem K.pubI {e w : World} {G : View} {L : Own} {b t c : Nat} {xs : List Int} (hK : K e w G ((b, row (ints xs) t) :: L)) (h1 : xs.length ≤ c) (h2 : c ≤ 1000000000) :
    ∃ G', VLe G G' ∧ IntS G' (.slice (some ⟨b, 0, none⟩) xs.length c) xs ∧ K e w G' L := by
  refine ⟨addV G [(b, row (ints xs) t)], K.addV_le (A := [(b, row (ints xs) t)]) hK, ?_, K.pub (A := [(b, row (ints xs) t)]) hK⟩
  refine ⟨⟨_, c, rfl, h1, by unfold maxLen; omega, .inr ⟨_, _, rfl⟩⟩, fun i x hx => ⟨[.int .i64 x], rfl, fun j u hj => ?_, rfl⟩⟩
  have hj0 : j = 0 := by have := (List.getElem?_eq_some_iff.1 hj).1; simp at this; exact this
  subst hj0
  simp at hj; subst hj
  have hg : addV G [(b, row (ints xs) t)] b = some (row (ints xs) t) := addV_mem (by simp) (List.mem_cons_self ..)
  unfold cellV
  simp only [elA, hg, Nat.zero_add, Nat.mul_one, Nat.add_zero]
  simp [row, ints, hx]
/-- a slice of numbers that the walk owns joins the view -/
theorem K.pubO {e w : World} {G : View} {L A : Own} {t : Nat} {v : Value} {xs : List Int} (hK : K e w G (A ++ L)) (ho : OS 1 t v xs.length (ints xs) A) :
    ∃ G', VLe G G' ∧ IntS G' v xs ∧ K e w G' L := by
  refine ⟨addV G A, hK.addV_le, ?_, hK.pub⟩
  refine OS.pub ho ho.nodup fun i x hx => ⟨[.int .i64 x], rfl, fun j u hj => ?_, rfl⟩
  have hj0 : j = 0 := by have := (List.getElem?_eq_some_iff.1 hj).1; simp at this; exact this
  subst hj0
  simp at hj; subst hj
  simp [ints, hx]
end Go.Ro
