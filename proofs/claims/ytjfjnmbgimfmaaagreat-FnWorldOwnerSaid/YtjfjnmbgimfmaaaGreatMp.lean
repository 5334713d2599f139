/- More operations: exclusive or; bytes by an index that is an integer. make of a slice. Maps from int to int, made by the walk itself. Conditions: those that each row states. -/
import Derived.Test.YtjfjnmbgimfmaaaGreatAp
namespace Go.Ro
open Go

def xorI (a b : Int) : Int := ((a.toNat ^^^ b.toNat : Nat) : Int)
theorem xorI_bd {a b : Int} (ha : 0 ≤ a) (ha' : a < 4611686018427387904) (hb : 0 ≤ b) (hb' : b < 4611686018427387904) : 0 ≤ xorI a b ∧ xorI a b < 4611686018427387904 := by
  have h1 : a.toNat < 2 ^ 62 := by omega
  have h2 : b.toNat < 2 ^ 62 := by omega
  have := Nat.xor_lt_two_pow h1 h2
  unfold xorI
  omega

theorem BytS.at {G : View} {v : Value} {xs : List Int} (h : BytS G v xs) {i : Nat} (hi : i < xs.length) : cellV G (elA v i) = some (.int .u8 xs[i]) := (h.atB hi).1
theorem BytS.atI {G : View} {v : Value} {xs : List Int} (h : BytS G v xs) {j : Int} (h0 : 0 ≤ j) (h1 : j < xs.length) : cellV G (elA v j.toNat) = some (.int .u8 (xs.getD j.toNat 0)) := by
  have hi : j.toNat < xs.length := by omega
  rw [h.at hi]; simp [List.getD, hi]
theorem BytS.bd {G : View} {v : Value} {xs : List Int} (h : BytS G v xs) (i : Nat) : 0 ≤ xs.getD i 0 ∧ xs.getD i 0 ≤ 255 := by
  by_cases hi : i < xs.length
  · have := (h.atB hi).2
    simpa [List.getD, hi] using this
  · simp [List.getD, List.getElem?_eq_none (Nat.le_of_not_lt hi)]

section
variable {P : Program} {n : Nat} {f : Sl} {w : World} {dst : Option Tmp} {ty : TypeId} {pos : String} {af : Array Edge} {g : Option (Nat × Bool)}
theorem xr {T T' : Nat} {x y : Operand} {a b : Int} (hx : ev n f x = .int .i64 a) (hy : ev n f y = .int .i64 b) (ha : 0 ≤ a) (ha' : a < 4611686018427387904) (hb : 0 ≤ b) (hb' : b < 4611686018427387904) :
    St P n ⟨dst, .binOp .xor T x y T', ty, pos, af, g⟩ f w (.int .i64 (xorI a b)) w := by
  refine run_bin hx hy ?_
  obtain ⟨a, rfl⟩ := Int.eq_ofNat_of_zero_le ha
  obtain ⟨b, rfl⟩ := Int.eq_ofNat_of_zero_le hb
  have hbd := xorI_bd ha ha' hb hb'
  have h1 : (BitVec.ofInt 64 (a : Int) ^^^ BitVec.ofInt 64 (b : Int)).toNat = a ^^^ b := by
    rw [BitVec.ofInt_natCast, BitVec.ofInt_natCast, BitVec.toNat_xor, BitVec.toNat_ofNat, BitVec.toNat_ofNat, Nat.mod_eq_of_lt (by omega), Nat.mod_eq_of_lt (by omega)]
  have h2 : xorI (a : Int) (b : Int) = ((a ^^^ b : Nat) : Int) := rfl
  rw [h2] at hbd ⊢
  have h3 : IntKind.i64.wrap ((a ^^^ b : Nat) : Int) = ((a ^^^ b : Nat) : Int) := wrap64_in (show (-9223372036854775808 : Int) ≤ _ by omega) (show _ ≤ (9223372036854775807 : Int) by omega)
  show (Op.intBits .xor .i64 (a : Int) (b : Int)).run P w = _
  unfold Op.intBits
  show (Sem.pure (Value.int IntKind.i64 (IntKind.i64.wrap ((BitVec.ofInt 64 (a : Int) ^^^ BitVec.ofInt 64 (b : Int)).toNat : Int)))).run P w = _
  rw [h1, h3]; rfl
end

section
variable {P : Program} {n : Nat} {f : Sl} {ops : Array Oper} {rest : List Oper} {d : Nat} {ty : TypeId} {pos : String} {af : Array Edge} {e : World} {G : View} {L : Own} {R : Sl → Prop}
theorem qldV {T : Nat} {x : Operand} {a : Addr} {v : Value} (h1 : OneC P T) (hp : ev n f x = .pointer (some a)) (hc : cellV G a = some v) (h : WQ P n ops (fun w => K e w G L) R rest (upd f d v)) :
    WQ P n ops (fun w => K e w G L) R (⟨some d, .load T x, ty, pos, af, none⟩ :: rest) f := qv (fun _ hK => ldV hK h1 hp hc) h
theorem qldO {T : Nat} {x : Operand} {b o t : Nat} {cs : List Value} {v : Value} (h1 : OneC P T) (k : Nat) (hn : L[k]? = some (b, row cs t))
    (hp : ev n f x = .pointer (some ⟨b, o, none⟩)) (hc : cs[o]? = some v) (h : WQ P n ops (fun w => K e w G L) R rest (upd f d v)) :
    WQ P n ops (fun w => K e w G L) R (⟨some d, .load T x, ty, pos, af, none⟩ :: rest) f := qv (fun _ hK => ldO hK h1 k hn hp hc) h
theorem qlsO {T sz : Nat} {x : Operand} {b t : Nat} {cs : List Value} (h1 : AggC P T) (hs : (P.info? T).map (·.size) = some sz) (k : Nat) (hn : L[k]? = some (b, row cs t))
    (hp : ev n f x = .pointer (some ⟨b, 0, none⟩)) (hl : cs.length = sz) (h : WQ P n ops (fun w => K e w G L) R rest (upd f d (.agg cs.toArray))) :
    WQ P n ops (fun w => K e w G L) R (⟨some d, .load T x, ty, pos, af, none⟩ :: rest) f := qv (fun _ hK => lsO hK h1 hs k hn hp hl) h
theorem qlsV {T sz : Nat} {x : Operand} {v : Value} {m k : Nat} {cs : List Value} (h1 : AggC P T) (hs : (P.info? T).map (·.size) = some sz)
    (hp : ev n f x = .pointer (some (elA v k))) (hw : SlW v m) (hm : 0 < m) (hl : cs.length = sz) (hc : ∀ j c, cs[j]? = some c → cellV G (elA v (k + j)) = some c)
    (h : WQ P n ops (fun w => K e w G L) R rest (upd f d (.agg cs.toArray))) :
    WQ P n ops (fun w => K e w G L) R (⟨some d, .load T x, ty, pos, af, none⟩ :: rest) f := qv (fun _ hK => lsV hK h1 hs hp hw hm hl hc) h
end
end Go.Ro

namespace Go.Ro
open Go

theorem flat_get {α : Type} (zl : List α) (m : Nat) (_ : 0 < zl.length) : ∀ j, j < m * zl.length → (List.replicate m zl).flatten[j]? = zl[j % zl.length]? := by
  induction m with
  | zero => intro j h; simp at h
  | succ m ih =>
    intro j h
    rw [List.replicate_succ, List.flatten_cons, List.getElem?_append]
    split
    · rename_i hj; rw [Nat.mod_eq_of_lt hj]
    · rename_i hj
      rw [Nat.succ_mul] at h
      rw [ih (j - zl.length) (by omega), ← Nat.mod_eq_sub_mod (show zl.length ≤ j by omega)]

section
variable {P : Program} {n : Nat} {Q : Po} {f : Sl} {w : World} {ops : Array Oper} {rest : List Oper}
  {d : Nat} {ty : TypeId} {pos : String} {af : Array Edge} {e : World} {G : View} {L : Own}

theorem mks {T E' sz bytes m : Nat} {z : Value} {zl : List Value} {x y : Operand} (hK : K e w G L) (hT : P.underlying T = some (.slice E')) (hi : Inf P E' z sz bytes) (hz : z.cells = zl.toArray) (hl : zl.length = sz) (hsz : Nat.ble 1 sz = true)
    (hx : ev n f x = .int .i64 (m : Int)) (hy : ev n f y = .int .i64 (m : Int)) (hm : m ≤ 100000000) (hby : Nat.ble bytes 1000 = true)
    (h : ∀ b w1, OS sz E' (.slice (some ⟨b, 0, none⟩) m m) m (List.replicate m zl).flatten [(b, row (List.replicate m zl).flatten E')] → K e w1 G ((b, row (List.replicate m zl).flatten E') :: L) →
      WL P n ops Q rest (upd f d (.slice (some ⟨b, 0, none⟩) m m)) w1) :
    WL P n ops Q (⟨some d, .makeSlice T x y, ty, pos, af, none⟩ :: rest) f w := by
  obtain ⟨i, g1, g2, g3, g4⟩ := hi.get
  have hb1 : bytes ≤ 1000 := Nat.le_of_ble_eq_true hby
  have hs1 : 1 ≤ sz := Nat.le_of_ble_eq_true hsz
  have hlen : (List.replicate m zl).flatten.length = m * sz := by rw [List.length_flatten, List.map_replicate, List.sum_replicate_nat, hl]
  have hrow : row (List.replicate m zl).flatten E' = Obj.cells ((Array.range (m * sz)).map fun k => z.cells[k % z.cells.size]!) E' (0, 0) := by
    unfold row
    congr 1
    apply Array.ext
    · simp [hlen]
    · intro j h1 h2
      have hj : j < m * sz := by simpa using h2
      have hg := flat_get zl m (by omega) j (by rw [hl]; exact hj)
      have hmod : j % zl.length < zl.length := Nat.mod_lt _ (by omega)
      have h3 : (List.replicate m zl).flatten[j]'(by rw [hlen]; exact hj) = zl[j % zl.length] := by
        have e1 : (List.replicate m zl).flatten[j]? = some (List.replicate m zl).flatten[j] := List.getElem?_eq_getElem (by rw [hlen]; exact hj)
        rw [e1, List.getElem?_eq_getElem hmod] at hg
        exact Option.some.inj hg
      simp only [List.getElem_toArray, Array.getElem_map, Array.getElem_range, hz, List.size_toArray]
      rw [h3]
      simp [hmod]
  refine vl ?_ (h w.heap.size (w.alloc (row (List.replicate m zl).flatten E')) (OS.lit hlen (by omega)) (hK.alloc _))
  have hbm := Nat.mul_le_mul hb1 hm
  have hbm' : bytes * m ≤ 100000000000 := hbm
  have h1 : IntKind.i64.wrap (m : Int) = (m : Int) := wrap64_in (show (-9223372036854775808 : Int) ≤ _ by omega) (show _ ≤ (9223372036854775807 : Int) by omega)
  have hbmi : ((bytes : Int) * (m : Int)) ≤ 100000000000 := by rw [← Int.natCast_mul]; omega
  have ht : ¬ ((m : Int) < 0 ∨ (281474976710656 : Int) < (bytes : Int) * (m : Int)) := by omega
  have hroom : ¬ (m * bytes > roomBytes) := by
    rw [Nat.mul_comm]
    show ¬ (bytes * m > 140737488355328)
    omega
  unfold St execOp
  have hnz : (m * sz = 0) ∨ ¬ (m * sz = 0) := by omega
  have hzv : (zeroValue E').run P w = .ok z w := by simp [zeroValue, typeInfo, g1, g2]
  rw [hrow]
  have hmi : ¬ (m : Int) < 0 := by omega
  have hti : ¬ (281474976710656 : Int) < (bytes : Int) * (m : Int) := by omega
  rcases hnz with h0 | h0
  · have hm0 : m = 0 := by
      rcases Nat.mul_eq_zero.1 h0 with h | h
      · exact h
      · omega
    subst hm0
    simp [hx, hy, Instr.makeSlice, run_underlying hT, asInt, asIntOf, typeInfo, g1, sizeOf, newRow, askRoom, roomBytes, IntKind.wrap_i64]
    have hq : ∀ q : Nat → Value, (Array.range 0).map q = #[] := fun q => Array.eq_empty_of_size_eq_zero (by simp)
    rw [hq, hq]
  · simp only [hx, hy, Instr.makeSlice, Sem.run_bind, run_underlying hT, Result.andThen_ok, asInt, asIntOf, Sem.run_pure, typeInfo, run_program, g1, g4, h1]
    simp [hmi, hti, askRoom, hroom, sizeOf, typeInfo, g1, g3, h0, hzv, newRow]

/-- a store at an index that is reckoned -/
theorem soi {T b o t : Nat} {x y : Operand} {l : List Value} {v : Value} {sz by' : Nat} {z : Value} (hK : K e w G L) (hi : Inf P T z sz by') (hs : Nat.beq sz 1 = true) (k : Nat) (hn : L[k]? = some (b, row l t))
    (hp : ev n f x = .pointer (some ⟨b, o, none⟩)) (hv : ev n f y = v) (h1 : one v = true) (ho : o < l.length) {dst : Option Tmp}
    (h : ∀ w1, K e w1 G (L.set k (b, row (l.set o v) t)) → WL P n ops Q rest (updO f dst undef) w1) :
    WL P n ops Q (⟨dst, .store T x y, ty, pos, af, none⟩ :: rest) f w :=
  so hK hi hs k hn hp hv h1 (Nat.ble_eq_true_of_le ho) h
theorem soSi {T b o t : Nat} {x y : Operand} {l vs : List Value} {sz by' : Nat} {z : Value} (hK : K e w G L) (hi : Inf P T z sz by') (k : Nat) (hn : L[k]? = some (b, row l t))
    (hp : ev n f x = .pointer (some ⟨b, o, none⟩)) (hv : ev n f y = .agg vs.toArray) (hl : vs.length = sz) (h1' : vs.all one = true) (ho : o + vs.length ≤ l.length) {dst : Option Tmp}
    (h : ∀ w1, K e w1 G (L.set k (b, row (l.take o ++ vs ++ l.drop (o + vs.length)) t)) → WL P n ops Q rest (updO f dst undef) w1) :
    WL P n ops Q (⟨dst, .store T x y, ty, pos, af, none⟩ :: rest) f w :=
  soS hK hi k hn hp hv hl h1' (Nat.ble_eq_true_of_le ho) h
end

/-- a row of numbers joins the view -/
def ints (xs : List Int) : List Value := xs.map (.int .i64)
@[simp] theorem ints_len (xs : List Int) : (ints xs).length = xs.length := by simp [ints]
theorem K.pubI {e w : World} {G : View} {L : Own} {b t c : Nat} {xs : List Int} (hK : K e w G ((b, row (ints xs) t) :: L)) (h1 : xs.length ≤ c) (h2 : c ≤ 1000000000) :
    ∃ G', VLe G G' ∧ IntS G' (.slice (some ⟨b, 0, none⟩) xs.length c) xs ∧ K e w G' L := by
  refine ⟨addV G [(b, row (ints xs) t)], K.addV_le (A := [(b, row (ints xs) t)]) hK, ?_, K.pub (A := [(b, row (ints xs) t)]) hK⟩
  refine ⟨⟨_, c, rfl, h1, by unfold maxLen; omega, .inr ⟨_, _, rfl⟩⟩, fun i x hx => ⟨[.int .i64 x], rfl, fun j u hj => ?_, rfl⟩⟩
  have hj0 : j = 0 := by have := (List.getElem?_eq_some_iff.1 hj).1; simp at this; exact this
  subst hj0
  simp at hj; subst hj
  have hg : addV G [(b, row (ints xs) t)] b = some (row (ints xs) t) := addV_mem (by simp) (List.mem_cons_self ..)
  unfold cellV
  simp only [elA, hg, Nat.zero_add, Nat.mul_one, Nat.add_zero]
  simp [row, ints, hx]
/-- a slice of numbers that the walk owns joins the view -/
theorem K.pubO {e w : World} {G : View} {L A : Own} {t : Nat} {v : Value} {xs : List Int} (hK : K e w G (A ++ L)) (ho : OS 1 t v xs.length (ints xs) A) :
    ∃ G', VLe G G' ∧ IntS G' v xs ∧ K e w G' L := by
  refine ⟨addV G A, hK.addV_le, ?_, hK.pub⟩
  refine OS.pub ho ho.nodup fun i x hx => ⟨[.int .i64 x], rfl, fun j u hj => ?_, rfl⟩
  have hj0 : j = 0 := by have := (List.getElem?_eq_some_iff.1 hj).1; simp at this; exact this
  subst hj0
  simp at hj; subst hj
  simp [ints, hx]
theorem mul_lt2 {a b A B : Int} (h1 : 0 ≤ a) (h2 : a < A) (h3 : 0 ≤ b) (h4 : b < B) : 0 ≤ a * b ∧ a * b ≤ A * B :=
  ⟨Int.mul_nonneg h1 h3, Int.mul_le_mul (by omega) (by omega) h3 (by omega)⟩
end Go.Ro

namespace Go.Ro
open Go

def ups : List (Int × Int) → Int → Int → List (Int × Int)
  | [], k, v => [(k, v)]
  | (a, b) :: l, k, v => if a = k then (k, v) :: l else (a, b) :: ups l k v
def lkI : List (Int × Int) → Int → Option Int
  | [], _ => none
  | (a, b) :: l, k => if a = k then some b else lkI l k
theorem lkI_ups (l : List (Int × Int)) (k v j : Int) : lkI (ups l k v) j = if j = k then some v else lkI l j := by
  induction l with
  | nil => simp only [ups, lkI]; by_cases h : k = j <;> simp [h]; intro h'; exact absurd h'.symm h
  | cons p l ih =>
    obtain ⟨a, b⟩ := p
    unfold ups
    by_cases h : a = k
    · subst h
      rw [if_pos rfl]
      simp only [lkI]
      by_cases h' : a = j
      · subst h'; simp
      · rw [if_neg h', if_neg h', if_neg (fun e => h' e.symm)]
    · rw [if_neg h]
      simp only [lkI]
      by_cases h' : a = j
      · subst h'; simp [h]
      · rw [if_neg h', if_neg h', ih]

def enE (p : Int × Int) : Value × Value := (.int .i64 p.1, .int .i64 p.2)
def MI (o : Obj) (l : List (Int × Int)) : Prop := ∃ es c, o = .map es c ∧ es.toList.map (fun e => (e.key, e.val)) = l.map enE

theorem MI.nil : MI (.map #[] 0) [] := ⟨_, _, rfl, rfl⟩

theorem findNow_int : ∀ (es : List MapEntry) (l : List (Int × Int)) (k : Int) (i : Nat), es.map (fun e => (e.key, e.val)) = l.map enE →
    (lkI l k = none ∧ Instr.findNow (.int .i64) (.int .i64 k) es i = some none) ∨
    (∃ j v, lkI l k = some v ∧ j < es.length ∧ Instr.findNow (.int .i64) (.int .i64 k) es i = some (some (i + j, .int .i64 v)) ∧ (es[j]?.map (·.key)) = some (.int .i64 k) ∧
      ∀ u (e' : MapEntry → MapEntry), (∀ x, (e' x).key = .int .i64 k ∧ (e' x).val = .int .i64 u) → (es.modify j e').map (fun e => (e.key, e.val)) = (ups l k u).map enE)
  | [], [], k, i, _ => .inl ⟨rfl, rfl⟩
  | [], _ :: _, _, _, h => by simp at h
  | _ :: _, [], _, _, h => by simp at h
  | e :: es, (a, b) :: l, k, i, h => by
    simp only [List.map_cons, List.cons.injEq, enE, Prod.mk.injEq] at h
    obtain ⟨⟨hk, hv⟩, hr⟩ := h
    have hs : Instr.sameNow (.int .i64) (.int .i64 k) e.key = some (k == a) := by rw [hk]; simp [Instr.sameNow]
    by_cases hak : a = k
    · subst hak
      right
      refine ⟨0, b, by simp [lkI], by simp, ?_, by simp [hk], ?_⟩
      · simp [Instr.findNow, hs, hv]
      · intro u e' he'
        simp [ups, enE, (he' e).1, (he' e).2]
        exact hr
    · have hs' : Instr.sameNow (.int .i64) (.int .i64 k) e.key = some false := by rw [hs]; simp; exact fun h => hak h.symm
      rcases findNow_int es l k (i + 1) hr with ⟨h1, h2⟩ | ⟨j, v, h1, h2, h3, h4, h5⟩
      · left; exact ⟨by simp [lkI, hak, h1], by simp [Instr.findNow, hs', h2]⟩
      · right
        refine ⟨j + 1, v, by simp [lkI, hak, h1], by simp; exact h2, ?_, by simpa using h4, ?_⟩
        · simp only [Instr.findNow, hs', h3]; congr 3; omega
        · intro u e' he'
          have := h5 u e' he'
          simp [ups, hak, enE, hk, hv] at this ⊢
          exact this

section
variable {P : Program} {n : Nat} {Q : Po} {f : Sl} {w : World} {ops : Array Oper} {rest : List Oper}
  {d : Nat} {dst : Option Tmp} {ty : TypeId} {pos : String} {af : Array Edge} {g : Option (Nat × Bool)} {e : World} {G : View} {L : Own}

theorem mkm {T : Nat} (hK : K e w G L) (h : ∀ b w1, K e w1 G ((b, .map #[] 0) :: L) → WL P n ops Q rest (upd f d (.map (some b))) w1) :
    WL P n ops Q (⟨some d, .makeMap T none, ty, pos, af, none⟩ :: rest) f w := by
  refine vl ?_ (h w.heap.size (w.alloc (.map #[] 0)) (hK.alloc _))
  unfold St execOp
  simp [Instr.makeMap]

theorem run_getObj_map {b : Nat} {es : Array MapEntry} {c : Nat} (hb : w.heap[b]? = some (.map es c)) : (getObj b).run P w = .ok (.map es c) w := by
  simp [getObj, Sem.run, hb]
theorem run_checkKey {KT : Nat} {kk : Int} {emp : Bool} (hKT : P.underlying KT = some (.int .i64)) (w : World) : (Instr.checkKey emp 10000 KT (.int .i64 kk)).run P w = .ok () w := by
  rw [show (10000 : Nat) = 9999 + 1 from rfl, Instr.checkKey, Sem.run_bind, run_underlying hKT]
  rfl
theorem run_findKey {KT : Nat} {kk : Int} {es : List MapEntry} {r : Option (Nat × Value)} (hKT : P.underlying KT = some (.int .i64)) (hr : Instr.findNow (.int .i64) (.int .i64 kk) es 0 = some r) (w : World) :
    (Instr.findKey KT (.int .i64 kk) es).run P w = .ok r w := by
  simp [Instr.findKey, run_underlying hKT, hr]

theorem run_lookup {T KT ET b : Nat} {o : Obj} {l : List (Int × Int)} {kk : Int} {ok : Bool} (hK : K e w G L) (hT : P.underlying T = some (.map KT ET)) (hKT : P.underlying KT = some (.int .i64)) (hi : Inf P ET (.int .i64 0) 1 8)
    (hm : (b, o) ∈ L) (hl : MI o l) : (Instr.lookup T (.map (some b)) (.int .i64 kk) ok).run P w = .ok (cond ok (.tuple [.int .i64 ((lkI l kk).getD 0), .bool (lkI l kk).isSome].toArray) (.int .i64 ((lkI l kk).getD 0))) w := by
  obtain ⟨es, c, rfl, hes⟩ := hl
  obtain ⟨i, g1, g2, _, _⟩ := hi.get
  have hb := hK.own _ _ hm
  have hzv : (zeroValue ET).run P w = .ok (.int .i64 0) w := by simp [zeroValue, typeInfo, g1, g2]
  rcases findNow_int es.toList l kk 0 hes with ⟨h1, h2⟩ | ⟨j, v, h1, _, h3, _, _⟩
  · have hf := run_findKey (P := P) hKT h2 w
    simp only [Instr.lookup, Sem.run_bind, run_underlying hT w, Result.andThen_ok, run_getObj_map hb, Sem.run_pure, run_checkKey hKT, hf, hzv, h1]
    cases ok <;> simp
  · have hf := run_findKey (P := P) hKT h3 w
    simp only [Instr.lookup, Sem.run_bind, run_underlying hT w, Result.andThen_ok, run_getObj_map hb, Sem.run_pure, run_checkKey hKT, hf, h1]
    cases ok <;> simp

theorem lk {T KT ET b : Nat} {x y : Operand} {o : Obj} {l : List (Int × Int)} {kk : Int} (hK : K e w G L) (hT : P.underlying T = some (.map KT ET)) (hKT : P.underlying KT = some (.int .i64)) (hi : Inf P ET (.int .i64 0) 1 8)
    (hx : ev n f x = .map (some b)) (hy : ev n f y = .int .i64 kk) (k : Nat) (hn : L[k]? = some (b, o)) (hl : MI o l) :
    St P n ⟨dst, .lookup T x y false, ty, pos, af, g⟩ f w (.int .i64 ((lkI l kk).getD 0)) w := by
  unfold St execOp
  simp only [hx, hy, Sem.run_bind, run_lookup hK hT hKT hi (List.mem_of_getElem? hn) hl, Result.andThen_ok, Sem.run_pure]; rfl
theorem lkk {T KT ET b : Nat} {x y : Operand} {o : Obj} {l : List (Int × Int)} {kk : Int} (hK : K e w G L) (hT : P.underlying T = some (.map KT ET)) (hKT : P.underlying KT = some (.int .i64)) (hi : Inf P ET (.int .i64 0) 1 8)
    (hx : ev n f x = .map (some b)) (hy : ev n f y = .int .i64 kk) (k : Nat) (hn : L[k]? = some (b, o)) (hl : MI o l) :
    St P n ⟨dst, .lookup T x y true, ty, pos, af, g⟩ f w (.tuple [.int .i64 ((lkI l kk).getD 0), .bool (lkI l kk).isSome].toArray) w := by
  unfold St execOp
  simp only [hx, hy, Sem.run_bind, run_lookup hK hT hKT hi (List.mem_of_getElem? hn) hl, Result.andThen_ok, Sem.run_pure]; rfl

theorem mu {T KT ET b : Nat} {x y z : Operand} {o : Obj} {l : List (Int × Int)} {kk vv : Int} (hK : K e w G L) (hT : P.underlying T = some (.map KT ET)) (hKT : P.underlying KT = some (.int .i64))
    (hx : ev n f x = .map (some b)) (hy : ev n f y = .int .i64 kk) (hz : ev n f z = .int .i64 vv) (k : Nat) (hn : L[k]? = some (b, o)) (hl : MI o l)
    (h : ∀ o' w1, MI o' (ups l kk vv) → K e w1 G (L.set k (b, o')) → WL P n ops Q rest (updO f dst undef) w1) :
    WL P n ops Q (⟨dst, .mapUpdate T x y z, ty, pos, af, none⟩ :: rest) f w := by
  obtain ⟨es, c, rfl, hes⟩ := hl
  have hK1 := hK.nth hn
  have hb := hK1.own _ _ (List.mem_cons_self ..)
  have key : ∀ o' : Obj, (∀ x y z, o' ≠ .cells x y z) → K e { w with heap := w.heap.setIfInBounds b o' } G (L.set k (b, o')) ∧ (setObj b o').run P w = .ok () { w with heap := w.heap.setIfInBounds b o' } := by
    intro o' _
    refine ⟨(K.write (L := L.eraseIdx k) (o' := o') (w' := { w with heap := w.heap.setIfInBounds b o' }) hK1 rfl rfl rfl ?_ ?_).perm (set_perm hn), ?_⟩
    · have := lt_of_heap hb
      simp [this]
    · intro k' hk' x hx
      simp only []
      rw [Array.getElem?_setIfInBounds_ne (fun h => hk' h.symm)]; exact hx
    · simp [setObj, Sem.run, hb]
  have hck := run_checkKey (P := P) (kk := kk) (emp := false) hKT w
  rcases findNow_int es.toList l kk 0 hes with ⟨h1, h2⟩ | ⟨j, v, h1, hj, h3, h4, h5⟩
  · have hf := run_findKey (P := P) hKT h2 w
    obtain ⟨hK', hs⟩ := key (.map (es.push { key := .int .i64 kk, val := .int .i64 vv, born := c }) (c + 1)) (by intros; simp)
    refine skp rfl ?_ (h _ _ ⟨_, _, rfl, ?_⟩ hK')
    · unfold execOp
      simp only [hx, hy, hz, Instr.mapUpdate, Sem.run_bind, run_underlying hT w, Result.andThen_ok, run_getObj_map hb, hck, hf, hs, Sem.run_pure]
    · have : ∀ l : List (Int × Int), lkI l kk = none → (ups l kk vv) = l ++ [(kk, vv)] := by
        intro l
        induction l with
        | nil => intro _; rfl
        | cons p l ih =>
          obtain ⟨a, b'⟩ := p
          intro hlk
          simp only [lkI] at hlk
          split at hlk
          · cases hlk
          · rename_i hne; simp [ups, hne, ih hlk]
      rw [this l h1]
      simp [hes, enE]
  · have hf := run_findKey (P := P) hKT h3 w
    obtain ⟨hK', hs⟩ := key (.map (es.modify (0 + j) fun e => { e with key := .int .i64 kk, val := .int .i64 vv }) c) (by intros; simp)
    refine skp rfl ?_ (h _ _ ⟨_, _, rfl, ?_⟩ hK')
    · have hkey : ((es[0 + j]?).map (·.key)).getD (.int .i64 kk) = .int .i64 kk := by
        rw [Nat.zero_add]
        have : es[j]? = es.toList[j]? := by simp
        rw [this, h4]; rfl
      have hst : (Instr.keyThatStays (.int .i64 kk) (.int .i64 kk)).run P w = .ok (.int .i64 kk) w := by simp [Instr.keyThatStays, Instr.sameBits]
      unfold execOp
      simp only [hx, hy, hz, Instr.mapUpdate, Sem.run_bind, run_underlying hT w, Result.andThen_ok, run_getObj_map hb, hck, hf, hkey, hst, hs, Sem.run_pure]
    · rw [Nat.zero_add]
      have := h5 vv (fun e => { e with key := .int .i64 kk, val := .int .i64 vv }) (fun _ => ⟨rfl, rfl⟩)
      simpa using this
end
end Go.Ro
