/- Operations on strings. A string's bytes in new memory; calls of the library that leave what is there. Scripts in plain lists of bytes: words, numbers, names, lines. What the library's Split and Join return, in plain lists. Conditions: those that each row states. -/
import Derived.Test.YtbiihblpgfgaoabGreatDoorLs
import Derived.Below
import Derived.Test.YtbiihblpgfgaoabGreatDoorPsM
import Derived.Lib.ConvBytes
import Derived.Test.YtbiihblpgfgaoabGreatDoorPlM
import Derived.Lib.ItoaNum
import Derived.Lib.SplitLaws
import Derived.Lib.IndexBytes
import Derived.Lib.IndexLaws
namespace Go.Ro
open Go
def Sv (l : List UInt8) : Value := .string ⟨l.toArray⟩
section
variable {P : Program} {n : Nat} {Q : Po} {f : Sl} {w e : World} {dst : Option Tmp} {ty : TypeId} {pos : String} {af : Array Edge} {g : Option (Nat × Bool)}
theorem sap {l m : List UInt8} : ({ data := l.toArray } : ByteArray) ++ { data := m.toArray } = { data := (l ++ m).toArray } := by
  apply ByteArray.ext; simp
theorem ssz {l : List UInt8} : ({ data := l.toArray } : ByteArray).size = l.length := by simp [ByteArray.size]
theorem sad {T T' : Nat} {x y : Operand} {l m : List UInt8} (hx : ev n f x = Sv l) (hy : ev n f y = Sv m) (h : l.length + m.length ≤ 1000000000) :
    St P n ⟨dst, .binOp .add T x y T', ty, pos, af, g⟩ f w (Sv (l ++ m)) w := by
  unfold St execOp
  unfold Sv at hx hy ⊢
  simp [hx, hy, eqGuard, binOp, Op.stringOp, sap]
  rw [ssz, ssz]; omega
theorem beqd (l m : List UInt8) : (l == m) = decide (l = m) := by rw [Bool.eq_iff_iff]; simp
theorem seqE {T T' : Nat} {x y : Operand} {l m : List UInt8} (hx : ev n f x = Sv l) (hy : ev n f y = Sv m) :
    St P n ⟨dst, .binOp .eql T x y T', ty, pos, af, g⟩ f w (.bool (decide (l = m))) w := by
  unfold St execOp
  unfold Sv at hx hy
  simp [hx, hy, eqGuard, binOp, Op.stringOp]
  exact beqd l m
theorem seqN {T T' : Nat} {x y : Operand} {l m : List UInt8} (hx : ev n f x = Sv l) (hy : ev n f y = Sv m) :
    St P n ⟨dst, .binOp .neq T x y T', ty, pos, af, g⟩ f w (.bool (decide (l ≠ m))) w := by
  unfold St execOp
  unfold Sv at hx hy
  simp [hx, hy, eqGuard, binOp, Op.stringOp]
  exact beqd l m
theorem sln {x : Operand} {T ty' : TypeId} {l : List UInt8} (hT : P.underlying T = some .string) (hx : ev n f x = Sv l) :
    St P n ⟨dst, .call ⟨.builtin .len, #[x], #[T]⟩, ty', pos, af, g⟩ f w (.int .i64 (l.length : Int)) w := by
  have := lns (P := P) (n := n) (f := f) (w := w) (dst := dst) (pos := pos) (af := af) (g := g) (ty' := ty') hT hx
  rw [ssz] at this; exact this
theorem six {T ty' : TypeId} {x y : Operand} {l : List UInt8} {i : Nat} (hT : P.underlying T = some .string) (hx : ev n f x = Sv l) (hy : ev n f y = .int .i64 (i : Int)) (hi : i < l.length) :
    St P n ⟨dst, .index T x y, ty', pos, af, g⟩ f w (.int .u8 (l[i].toNat : Int)) w := by
  unfold St execOp
  have h1 : ({ data := l.toArray } : ByteArray)[i]? = some l[i] := by
    rw [getElem?_pos _ _ (by rw [ssz]; exact hi)]; rfl
  simp [hx, hy, Sv, Instr.index, asIntOf, run_underlying hT, h1]
theorem sxt {l : List UInt8} {a b : Nat} : ({ data := l.toArray } : ByteArray).extract a b = { data := ((l.take b).drop a).toArray } := by
  apply ByteArray.ext; simp [List.drop_take]
theorem ssl {T ty' : TypeId} {x y z : Operand} {l : List UInt8} {a b : Nat} (hT : P.underlying T = some .string) (hx : ev n f x = Sv l) (hy : ev n f y = .int .i64 (a : Int)) (hz : ev n f z = .int .i64 (b : Int)) (ha : a ≤ b) (hb : b ≤ l.length) :
    St P n ⟨dst, .slice T x (some y) (some z) none, ty', pos, af, g⟩ f w (Sv ((l.take b).drop a)) w := by
  unfold St execOp
  simp [hx, hy, hz, Sv, Instr.sliceAt, run_underlying hT, Instr.slice, Instr.sliceBounds, Instr.sliceBound, asIntOf, ssz, ha, hb, sxt]
theorem sslT {T ty' : TypeId} {x y : Operand} {l : List UInt8} {a : Nat} (hT : P.underlying T = some .string) (hx : ev n f x = Sv l) (hy : ev n f y = .int .i64 (a : Int)) (ha : a ≤ l.length) :
    St P n ⟨dst, .slice T x (some y) none none, ty', pos, af, g⟩ f w (Sv (l.drop a)) w := by
  unfold St execOp
  simp [hx, hy, Sv, Instr.sliceAt, run_underlying hT, Instr.slice, Instr.sliceBounds, Instr.sliceBound, asIntOf, ssz, ha, sxt]
theorem sslH {T ty' : TypeId} {x y : Operand} {l : List UInt8} {b : Nat} (hT : P.underlying T = some .string) (hx : ev n f x = Sv l) (hy : ev n f y = .int .i64 (b : Int)) (hb : b ≤ l.length) :
    St P n ⟨dst, .slice T x none (some y) none, ty', pos, af, g⟩ f w (Sv (l.take b)) w := by
  unfold St execOp
  simp [hx, hy, Sv, Instr.sliceAt, run_underlying hT, Instr.slice, Instr.sliceBounds, Instr.sliceBound, asIntOf, ssz, hb, sxt]
theorem b2s1 {S D E b : Nat} {x : Operand} {k : Int} (hS : P.underlying S = some (.slice E)) (hD : P.underlying D = some .string) (hE : P.underlying E = some (.int .u8)) (hx : ev n f x = .slice (some ⟨b, 0, none⟩) 1 1)
    (hc : w.cell? ⟨b, 0, none⟩ = some (.int .u8 k)) : St P n ⟨dst, .convert S D x, ty, pos, af, g⟩ f w (Sv [UInt8.ofNat k.toNat]) w := by
  have hr : (loadCells ⟨b, 0, none⟩ 1).run P w = .ok #[.int .u8 k] w := by
    simp [loadCells, loadCellsFrom, Addr.add, hc]
  unfold St execOp
  simp only [hx, convert, Sem.run_bind, run_underlying hS w, run_underlying hD w, run_underlying hE w, Result.andThen_ok, Conv.bytesToString, hr]
  simp
  rfl
theorem c8 {S D : Nat} {x : Operand} {a : Int} {k : IntKind} {ds : TypeDesc} (hS : P.underlying S = some ds) (hD : P.underlying D = some (.int .u8)) (hx : ev n f x = .int k a) (h1 : 0 ≤ a) (h2 : a ≤ 255) :
    St P n ⟨dst, .convert S D x, ty, pos, af, g⟩ f w (.int .u8 a) w := by
  unfold St execOp
  simp only [hx, convert, Sem.run_bind, run_underlying hS w, run_underlying hD w, Result.andThen_ok]
  have : IntKind.u8.wrap a = a := by
    simp [IntKind.wrap, IntKind.bits, IntKind.signed]
    omega
  cases ds <;> simp [Conv.intToInt, this]
theorem quN {T T' a k : Nat} {x y : Operand} (hx : ev n f x = .int .i64 (a : Int)) (hy : ev n f y = .int .i64 (k : Int)) (h : a ≤ 1000000000) (h2 : 0 < k) :
    St P n ⟨dst, .binOp .quo T x y T', ty, pos, af, g⟩ f w (.int .i64 ((a / k : Nat) : Int)) w :=
  qu hx hy (by omega) (by unfold hi64; omega) (by omega)
theorem rmN {T T' a k : Nat} {x y : Operand} (hx : ev n f x = .int .i64 (a : Int)) (hy : ev n f y = .int .i64 (k : Int)) (h2 : 0 < k) :
    St P n ⟨dst, .binOp .rem T x y T', ty, pos, af, g⟩ f w (.int .i64 ((a % k : Nat) : Int)) w :=
  rm hx hy (by omega) (by omega)
theorem ngn {d : Nat} {T : Nat} {x : Operand} {a : Nat} (hx : ev n f x = .int .i64 (-(a : Int))) (h : a ≤ 1000000000) : St P n ⟨some d, .unOp .neg T x, ty, pos, af, none⟩ f w (.int .i64 (a : Int)) w := by
  have := wrap64_in (z := (a : Int)) (by unfold lo64; omega) (by unfold hi64; omega)
  unfold St execOp; simp [hx, Op.unary, Op.intArith, this]
theorem sb8 {T T' : Nat} {x y : Operand} {a b : Int} (hx : ev n f x = .int .u8 a) (hy : ev n f y = .int .u8 b) (h : 0 ≤ a - b) (h2 : a - b ≤ 255) : St P n ⟨dst, .binOp .sub T x y T', ty, pos, af, g⟩ f w (.int .u8 (a - b)) w := by
  unfold St execOp
  have : IntKind.u8.wrap (a - b) = a - b := by
    simp [IntKind.wrap, IntKind.bits, IntKind.signed]
    omega
  simp [hx, hy, eqGuard, binOp, Op.intArith, this]
end
open Go Go.RowKit
section
variable {P : Program} {n : Nat} {Q : Po} {f : Sl} {w w' e : World} {G : View} {L : Own} {ty : TypeId} {pos : String} {af : Array Edge} {ops : Array Oper} {rest : List Oper} {d : Nat}
theorem bytesK {E : TypeId} {s : ByteArray} (hK : K e w G L) : K e (Lib.bytesWorld w E s) G ((w.heap.size, .cells (Lib.bytesCells w E s) E ((Lib.bytesCells w E s).size, (Lib.bytesCells w E s).size + 1)) :: L) := by
  have lt : ∀ b o, w.heap[b]? = some o → b < w.heap.size := fun b o h => (Array.getElem?_eq_some_iff.1 h).1
  refine ⟨hK.tape, hK.os, hK.out, fun b o h => ?_, fun b o h => ?_, fun b o h => ?_, ?_⟩
  · have := hK.view b o h
    rw [Lib.bytesWorld_at_old _ _ _ _ (lt _ _ this)]; exact this
  · rcases List.mem_cons.1 h with h | h
    · cases h; exact Lib.bytesWorld_at_new w E s
    · have := hK.own b o h
      rw [Lib.bytesWorld_at_old _ _ _ _ (lt _ _ this)]; exact this
  · rcases List.mem_cons.1 h with h | h
    · cases h
      cases hg : G w.heap.size with
      | none => rfl
      | some o => exact absurd (lt _ _ (hK.view _ _ hg)) (Nat.lt_irrefl _)
    · exact hK.sep b o h
  · rw [List.map_cons, List.nodup_cons]
    refine ⟨fun h => ?_, hK.nodup⟩
    obtain ⟨⟨b, o⟩, h1, h2⟩ := List.mem_map.1 h
    have h3 := lt _ _ (hK.own b o h1)
    have h4 : b = w.heap.size := h2
    omega
theorem s2b {S D E : Nat} {x : Operand} {l : List UInt8} (hK : K e w G L) (hS : P.underlying S = some .string) (hD : P.underlying D = some (.slice E)) (hE : P.underlying E = some (.int .u8)) (hx : ev n f x = Sv l) (hl : l.length ≤ 1000000)
    (h : ∀ G' v w1, VLe G G' → BytS G' v (l.map fun c => (c.toNat : Int)) → K e w1 G' L → WL P n ops Q rest (upd f d v) w1) : WL P n ops Q (⟨some d, .convert S D x, ty, pos, af, none⟩ :: rest) f w := by
  have hr := Lib.run_convert_string_bytes (P := P) w S D E ⟨l.toArray⟩ hS hD hE
  have hk := bytesK (E := E) (s := ⟨l.toArray⟩) hK
  have hk2 : K e (Lib.bytesWorld w E ⟨l.toArray⟩) G ([(w.heap.size, .cells (Lib.bytesCells w E ⟨l.toArray⟩) E ((Lib.bytesCells w E ⟨l.toArray⟩).size, (Lib.bytesCells w E ⟨l.toArray⟩).size + 1))] ++ L) := hk
  have hcap := grownCap_ge w l.length 0 E
  have hcap2 := grownCap_le_maxLen w l.length 0 E (by unfold maxLen; omega)
  refine vl ?_ (h _ (.slice (some ⟨w.heap.size, 0, none⟩) l.length (grownCap w l.length 0 E)) _ hk2.addV_le ⟨⟨_, _, (by rw [List.length_map]), ?_, hcap2, .inr ⟨_, _, rfl⟩⟩, ?_⟩ hk2.pub)
  · unfold St execOp
    unfold Sv at hx
    rw [ssz] at hr
    simp [hx, hr]
  · rw [List.length_map]; exact hcap
  · intro i y hy
    rw [List.getElem?_map] at hy
    cases hc : l[i]? with
    | none => rw [hc] at hy; cases hy
    | some c =>
      rw [hc] at hy
      obtain rfl : (c.toNat : Int) = y := Option.some.inj hy
      refine ⟨[.int .u8 (c.toNat : Int)], rfl, fun j u hj => ?_, rfl, by omega, by have := c.toNat_lt; omega⟩
      have hj0 : j = 0 := by have := (List.getElem?_eq_some_iff.1 hj).1; simp at this; exact this
      subst hj0
      simp at hj; subst hj
      have hil := (List.getElem?_eq_some_iff.1 hc).1
      have hv : addV G [(w.heap.size, Obj.cells (Lib.bytesCells w E ⟨l.toArray⟩) E ((Lib.bytesCells w E ⟨l.toArray⟩).size, (Lib.bytesCells w E ⟨l.toArray⟩).size + 1))] w.heap.size = some (Obj.cells (Lib.bytesCells w E ⟨l.toArray⟩) E ((Lib.bytesCells w E ⟨l.toArray⟩).size, (Lib.bytesCells w E ⟨l.toArray⟩).size + 1)) := by
        simp [addV]
      unfold cellV
      simp only [elA, Nat.mul_one, Nat.add_zero, Nat.zero_add, hv]
      have : (Lib.bytesCells w E ⟨l.toArray⟩)[i]? = some (.int .u8 (c.toNat : Int)) := by
        unfold Lib.bytesCells
        rw [Array.getElem?_append_left (by simpa using hil)]
        simp [hc]
      exact this
theorem K.still (hK : K e w G L) (h : Below w.heap.size w w') : K e w' G L := by
  have lt : ∀ b o, w.heap[b]? = some o → b < w.heap.size := fun b o h => (Array.getElem?_eq_some_iff.1 h).1
  refine ⟨h.tape.trans hK.tape, h.os.trans hK.os, h.output.trans hK.out, fun b o hb => ?_, fun b o hb => ?_, hK.sep, hK.nodup⟩
  · have := hK.view b o hb
    rw [h.block b (lt _ _ this)]; exact this
  · have := hK.own b o hb
    rw [h.block b (lt _ _ this)]; exact this
end
open Go
def sc (l : List UInt8) : List Value := [Sv l]
abbrev StrS := SlR 1 (EF sc)
def ctA (c : UInt8) : List UInt8 → List UInt8 → List (List UInt8)
  | cur, [] => [cur]
  | cur, x :: l => if x = c then cur :: ctA c [] l else ctA c (cur ++ [x]) l
def ctL (c : UInt8) (l : List UInt8) : List (List UInt8) := ctA c [] l
theorem ctA_len (c : UInt8) : ∀ (l cur : List UInt8), (ctA c cur l).length ≤ l.length + 1 ∧ 1 ≤ (ctA c cur l).length
  | [], cur => by simp [ctA]
  | x :: l, cur => by
    unfold ctA
    have h1 := ctA_len c l []
    have h2 := ctA_len c l (cur ++ [x])
    split <;> simp only [List.length_cons] <;> omega
theorem cut_yes {c : UInt8} {l : List UInt8} {i a : Nat} (hi : i < l.length) (h : l[i] = c) : ctA c ((l.take i).drop a) (l.drop i) = (l.take i).drop a :: ctA c ((l.take (i + 1)).drop (i + 1)) (l.drop (i + 1)) := by
  rw [List.drop_eq_getElem_cons hi, ctA, if_pos h, List.drop_eq_nil_of_le (by simp; omega : (l.take (i + 1)).length ≤ i + 1)]
theorem cut_no {c : UInt8} {l : List UInt8} {i a : Nat} (hi : i < l.length) (ha : a ≤ i) (h : ¬ l[i] = c) : ctA c ((l.take i).drop a) (l.drop i) = ctA c ((l.take (i + 1)).drop a) (l.drop (i + 1)) := by
  rw [List.drop_eq_getElem_cons hi, ctA, if_neg h, List.take_succ_eq_append_getElem hi, List.drop_append_of_le_length (by simp; omega)]
theorem u8eq {a b : UInt8} (h : (a.toNat : Int) = (b.toNat : Int)) : a = b := UInt8.toNat_inj.1 (by omega)
theorem StrS.cell {G : View} {v : Value} {ls : List (List UInt8)} (h : StrS G v ls) {i : Nat} (hi : i < ls.length) : cellV G (elA v i) = some (Sv ls[i]) := by
  have := SlR.cell h hi 0 (u := Sv ls[i]) rfl
  simpa using this
def numA : Int → List UInt8 → Int
  | a, [] => a
  | a, c :: l => if (c.toNat : Int) < 48 ∨ (c.toNat : Int) > 57 then -1 else numA (10 * a + ((c.toNat : Int) - 48)) l
def numW (w : List UInt8) : Int := if 1 ≤ w.length ∧ w.length ≤ 2 then numA 0 w else -1
def numL (ws : List (List UInt8)) (k : Nat) : Int := (ws[k]?.map numW).getD (-1)
theorem numL_no {ws : List (List UInt8)} {k : Nat} (h : ws.length ≤ k) : numL ws k = -1 := by unfold numL; rw [List.getElem?_eq_none h]; rfl
theorem numL_yes {ws : List (List UInt8)} {k : Nat} (h : k < ws.length) : numL ws k = numW ws[k] := by unfold numL; rw [List.getElem?_eq_getElem h]; rfl
theorem numA_bad {a : Int} {l : List UInt8} {i : Nat} (hi : i < l.length) (h : (l[i].toNat : Int) < 48 ∨ (l[i].toNat : Int) > 57) : numA a (l.drop i) = -1 := by
  rw [List.drop_eq_getElem_cons hi, numA, if_pos h]
theorem numA_ok {a : Int} {l : List UInt8} {i : Nat} (hi : i < l.length) (h : ¬ ((l[i].toNat : Int) < 48 ∨ (l[i].toNat : Int) > 57)) : numA a (l.drop i) = numA (10 * a + ((l[i].toNat : Int) - 48)) (l.drop (i + 1)) := by
  rw [List.drop_eq_getElem_cons hi, numA, if_neg h]
def kdN : List (List UInt8) := [[106, 111, 105, 110], [102, 97, 105, 108], [100, 114, 111, 112], [97, 100, 111, 112, 116], [99, 108, 111, 115, 101, 114], [110, 111, 116, 105, 102, 121], [104, 97, 110, 100], [116, 97, 107, 101], [114, 101, 110, 101, 119], [116, 105, 99, 107], [112, 117, 116], [101, 114, 97, 115, 101], [98, 101, 103, 105, 110], [115, 99, 97, 110]]
def kdF : List (List UInt8) → Int → List UInt8 → Int
  | [], _, _ => 0
  | x :: l, i, w => if x = w then i else kdF l (i + 1) w
def kdL (w : List UInt8) : Int := kdF kdN 1 w
theorem kdF_yes {ls : List (List UInt8)} {i : Nat} {k : Int} {w : List UInt8} (hi : i < ls.length) (h : ls[i] = w) : kdF (ls.drop i) k w = k := by
  rw [List.drop_eq_getElem_cons hi, kdF, if_pos h]
theorem kdF_no {ls : List (List UInt8)} {i : Nat} {k : Int} {w : List UInt8} (hi : i < ls.length) (h : ¬ ls[i] = w) : kdF (ls.drop i) k w = kdF (ls.drop (i + 1)) (k + 1) w := by
  rw [List.drop_eq_getElem_cons hi, kdF, if_neg h]
theorem sc_flat (ls : List (List UInt8)) (i : Nat) : (ls.flatMap sc)[i]? = (ls[i]?).map Sv := by
  induction ls generalizing i with
  | nil => rfl
  | cons x ls ih =>
    rw [List.flatMap_cons]
    cases i with
    | zero => rfl
    | succ i => simpa [sc] using ih i
open Go
theorem ctA_none {c : UInt8} : ∀ {l cur : List UInt8}, (∀ x ∈ l, x ≠ c) → ctA c cur l = [cur ++ l]
  | [], cur, _ => by simp [ctA]
  | x :: l, cur, h => by
    rw [ctA, if_neg (h x (List.mem_cons_self ..)), ctA_none (fun y hy => h y (List.mem_cons_of_mem _ hy))]; simp
theorem ctA_hit {c : UInt8} : ∀ {l cur : List UInt8} {o : Nat}, l[o]? = some c → (∀ j, j < o → l[j]? ≠ some c) → ctA c cur l = (cur ++ l.take o) :: ctL c (l.drop (o + 1))
  | [], _, _, h, _ => by simp at h
  | x :: l, cur, 0, h, _ => by
    have hx : x = c := by simpa using h
    rw [ctA, if_pos hx]; simp [ctL]
  | x :: l, cur, o + 1, h, h2 => by
    have hx : ¬ x = c := fun e => h2 0 (by omega) (by simp [e])
    rw [ctA, if_neg hx, ctA_hit (o := o) (by simpa using h) (fun j hj => by have := h2 (j + 1) (by omega); simpa using this)]
    simp
theorem splitK_ct (c : UInt8) : ∀ (k : Nat) (l : List UInt8), l.count c = k → Lib.splitK [c] 0 k l = ctL c l
  | 0, l, h => by
    unfold ctL
    rw [ctA_none (fun x hx e => by subst e; exact List.count_eq_zero.1 h hx)]; rfl
  | k + 1, l, h => by
    have hne : Lib.index l [c] ≠ -1 := by
      rw [Lib.index_one]
      intro e
      have h0 := Lib.indexByte_none e
      have : l.count c = 0 := List.count_eq_zero.2 fun hm => by
        obtain ⟨i, hi, he⟩ := List.getElem_of_mem hm
        exact h0 i (by rw [List.getElem?_eq_getElem hi, he])
      omega
    have hge := Lib.index_ge l [c]
    obtain ⟨o, ho⟩ := Int.eq_ofNat_of_zero_le (show 0 ≤ Lib.index l [c] by omega)
    have hs := Lib.indexByte_some (l := l) (c := c) (o := o) (by rw [← Lib.index_one]; exact ho)
    have hc := Lib.count_hit (s := l) (sub := [c]) (i := o) (by simp) ho
    rw [Lib.count_one, Lib.count_one] at hc
    have hk : (l.drop (o + 1)).count c = k := by simp at hc; omega
    rw [Lib.splitK, if_neg (by simpa using hne), ho]
    have := splitK_ct c k (l.drop (o + 1)) hk
    unfold ctL
    rw [ctA_hit hs.1 hs.2]
    simp [this]
theorem ctL_len {c : UInt8} (l : List UInt8) : (ctL c l).length = l.count c + 1 := by
  rw [← splitK_ct c _ l rfl]
  have : ∀ k (l : List UInt8), l.count c = k → (Lib.splitK [c] 0 k l).length = k + 1 := by
    intro k
    induction k with
    | zero => intro l _; rfl
    | succ k ih =>
      intro l h
      have hne : Lib.index l [c] ≠ -1 := by
        rw [Lib.index_one]
        intro e
        have h0 := Lib.indexByte_none e
        have : l.count c = 0 := List.count_eq_zero.2 fun hm => by
          obtain ⟨i, hi, he⟩ := List.getElem_of_mem hm
          exact h0 i (by rw [List.getElem?_eq_getElem hi, he])
        omega
      have hge := Lib.index_ge l [c]
      obtain ⟨o, ho⟩ := Int.eq_ofNat_of_zero_le (show 0 ≤ Lib.index l [c] by omega)
      have hc := Lib.count_hit (s := l) (sub := [c]) (i := o) (by simp) ho
      rw [Lib.count_one, Lib.count_one] at hc
      have hk : (l.drop (o + 1)).count c = k := by simp at hc; omega
      rw [Lib.splitK, if_neg (by simpa using hne), ho]
      have := ih (l.drop (o + 1)) hk
      simp [this]
  exact this _ l rfl
theorem flat_sc : ∀ ls : List (List UInt8), ls.flatMap sc = ls.map Sv
  | [] => rfl
  | x :: ls => by rw [List.flatMap_cons, flat_sc ls]; rfl
theorem split_row (l : List UInt8) (c : UInt8) : (Lib.splitB ⟨#[c]⟩ 0 (Lib.countB ⟨l.toArray⟩ ⟨#[c]⟩) ⟨l.toArray⟩).map Value.string = (ctL c l).flatMap sc := by
  have h1 : Lib.countB ⟨l.toArray⟩ ⟨#[c]⟩ = l.count c := Lib.count_one c l
  have h2 := Lib.splitB_data ⟨#[c]⟩ 0 (l.count c) ⟨l.toArray⟩
  have h3 : Lib.splitK [c] 0 (l.count c) l = ctL c l := splitK_ct c _ l rfl
  rw [h1]
  have h4 := flat_sc (ctL c l)
  rw [h4, ← h3]
  have h5 : Lib.splitK [c] 0 (l.count c) l = (Lib.splitB ⟨#[c]⟩ 0 (l.count c) ⟨l.toArray⟩).map (·.data.toList) := h2.symm
  rw [h5, List.map_map]
  rfl
end Go.Ro
