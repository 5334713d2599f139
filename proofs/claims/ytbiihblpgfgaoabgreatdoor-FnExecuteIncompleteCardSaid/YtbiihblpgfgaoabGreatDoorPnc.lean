/- A text that grows in a row of bytes of the walk's own, inside another block. strings.Split at one byte, as the specification cuts. Functions that may panic, and closures that recover. Conditions: those that each row states. -/
import Derived.Test.YtbiihblpgfgaoabGreatDoorSpM
import Derived.Lib.AppendStr
import Derived.Lib.Builder
import Derived.Lib.UnsafeStr
import Derived.Shelf.Strings.Split
import Derived.Test.YtbiihblpgfgaoabGreatDoorPlM
import Derived.Recover
import Derived.WalkSmall
namespace Go.Ro
open Go
def bys (l : List UInt8) : List Value := l.map fun c => .int .u8 (c.toNat : Int)
theorem bys_len (l : List UInt8) : (bys l).length = l.length := by simp [bys]
theorem bys_app (l m : List UInt8) : bys (l ++ m) = bys l ++ bys m := by simp [bys]
theorem bys_sc (l : List UInt8) : Lib.strCells ⟨l.toArray⟩ = bys l := by simp [Lib.strCells, bys]
theorem os_grown {E' b cap m : Nat} {cs : List Value} (hl : cs.length = m) (hcap : m ≤ cap) (hmax : cap ≤ maxLen) :
    OS 1 E' (.slice (some ⟨b, 0, none⟩) m cap) m cs [(b, .cells (cs.toArray ++ Builtin.zeroCells (Value.int .u8 0).cells (cap - m)) E' (0, 0))] := by
  have hz : (Value.int IntKind.u8 0).cells.size = 1 := rfl
  refine ⟨by omega, .inr ⟨b, cap, _, rfl, rfl, hcap, hmax, ?_, ?_⟩⟩
  · simp only [Array.size_append, List.size_toArray, size_zeroCells, hz]; omega
  · simp only [Array.toList_append]
    rw [Nat.mul_one, ← hl]
    exact List.take_left
section
variable {P : Program} {n : Nat} {Q : Po} {f : Sl} {w w' e : World} {G : View} {L A : Own} {ty : TypeId} {pos : String} {af : Array Edge} {ops : Array Oper} {rest : List Oper} {d : Nat} {dst : Option Tmp} {g : Option (Nat × Bool)}
theorem run_appendS {T U E' ty' m : Nat} {v : Value} {cs : List Value} {l : List UInt8} (hK : K e w G (A ++ L)) (hT : P.underlying T = some (.slice E')) (hU : P.underlying U = some .string) (hi : Inf P E' (.int .u8 0) 1 1)
    (ho : OS 1 E' v m cs A) (h0 : l ≠ []) (hml : m + l.length ≤ 1000000000) :
    ∃ v' A' w1, (Builtin.append_ #[T, U] ty' #[v, Sv l]).run P w = .ok v' w1 ∧ OS 1 E' v' (m + l.length) (cs ++ bys l) A' ∧ K e w1 G (A' ++ L) := by
  obtain ⟨i, g1, g2, g3, g4⟩ := hi.get
  have hlp : 0 < l.length := List.length_pos_iff.2 h0
  have hcl : cs.length = m := by have := ho.1; omega
  have hlen : (cs ++ bys l).length = m + l.length := by rw [List.length_append, bys_len, hcl]
  have hKg : ∀ x : Obj, K e (w.drew.alloc x) G ((w.heap.size, x) :: L) := fun x => (K.drawn hK.dropL (w.drawn + 1)).alloc x
  rcases ho.2 with ⟨rfl, rfl, rfl⟩ | ⟨bb, cap, cur, rfl, rfl, p1, p2, p3, p4⟩
  · have hcs : cs = [] := List.eq_nil_of_length_eq_zero hcl
    subst hcs
    have hr := run_append_nil_string (P := P) w T U ty' E' i (.int .u8 0) hT hU g1 g2 ⟨l.toArray⟩ (by rw [ssz]; exact hlp) (by rw [ssz]; omega) (by rw [ssz, g4]; omega)
    rw [ssz] at hr
    have ha : (l.toArray.map fun b : UInt8 => Value.int .u8 (b.toNat : Int)) = (bys l).toArray := by simp [bys]
    rw [ha] at hr
    refine ⟨_, [(w.heap.size, _)], _, hr, ?_, hKg _⟩
    rw [Nat.zero_add, List.nil_append]
    exact os_grown (bys_len l) (grownCap_ge w l.length 0 E') (grownCap_le_maxLen w l.length 0 E' (by unfold maxLen; omega))
  · by_cases hroom : m + l.length ≤ cap
    · have hbb := hK.own bb _ (List.mem_append_left _ (List.mem_cons_self ..))
      have hr := Lib.run_append_room_string (P := P) w T U ty' E' i hT hU g1 g3 bb m cap cur hbb ⟨l.toArray⟩ (by rw [ssz]; exact hroom) (by rw [ssz]; omega)
      rw [ssz, bys_sc] at hr
      generalize hcur : (cur.toList.take m ++ bys l ++ cur.toList.drop (m + l.length)).toArray = cur' at hr
      refine ⟨_, [(bb, .cells cur' E' (0, 0))], _, hr, ⟨by omega, .inr ⟨bb, cap, cur', rfl, rfl, hroom, p2, ?_, ?_⟩⟩, ?_⟩
      · rw [← hcur]
        simp only [List.size_toArray, List.length_append, List.length_take, List.length_drop, Array.length_toList, bys_len]
        omega
      · rw [← hcur]
        rw [Nat.mul_one] at p4
        rw [p4, Nat.mul_one, ← hlen]
        exact List.take_left
      · exact K.write (L := L) hK rfl rfl rfl (setRow_heap w bb cur _ E' _ hbb) (fun k' hk' x hx => by rw [setRow_other w bb k' _ hk']; exact hx)
    · have holds : ∀ j u, cs[j]? = some u → w.cell? ((⟨bb, 0, none⟩ : Addr).add j) = some u := by
        intro j u hj
        have := ho.cell hK hj
        have hadd : (⟨bb, 0, none⟩ : Addr).add j = ⟨bb, 0 + j, none⟩ := by
          unfold Addr.add
          split
          · rename_i h; rw [h]
          · rfl
        rw [hadd]; exact this
      have hfits : Builtin.nextslicecap (m + l.length) cap * i.bytes ≤ 281474976710656 := growslice_fits (by omega) (by rw [g4]; omega)
      have hr := Lib.run_append_grow_string (P := P) w T U ty' E' i (.int .u8 0) hT hU g1 g2 ⟨bb, 0, none⟩ m cap cs (by rw [g3]; omega) holds ⟨l.toArray⟩ (by rw [ssz]; omega) (by rw [ssz]; omega) (by rw [ssz]; exact hfits)
      rw [ssz, bys_sc, show cs.toArray ++ (bys l).toArray = (cs ++ bys l).toArray by simp] at hr
      exact ⟨_, [(w.heap.size, _)], _, hr, os_grown hlen (grownCap_ge w (m + l.length) cap E') (grownCap_le_maxLen w (m + l.length) cap E' (by unfold maxLen; omega)), hKg _⟩
theorem apS {T U E' ty' m : Nat} {v : Value} {x y : Operand} {cs : List Value} {l : List UInt8} (hK : K e w G (A ++ L)) (hT : P.underlying T = some (.slice E')) (hU : P.underlying U = some .string) (hi : Inf P E' (.int .u8 0) 1 1)
    (hx : ev n f x = v) (ho : OS 1 E' v m cs A) (hy : ev n f y = Sv l) (h0 : l ≠ []) (hml : m + l.length ≤ 1000000000)
    (h : ∀ v' A' w1, OS 1 E' v' (m + l.length) (cs ++ bys l) A' → K e w1 G (A' ++ L) → WL P n ops Q rest (upd f d v') w1) :
    WL P n ops Q (⟨some d, .call ⟨.builtin .append, #[x, y], #[T, U]⟩, ty', pos, af, none⟩ :: rest) f w := by
  obtain ⟨v', A', w1, hr, h2, h3⟩ := run_appendS (P := P) (ty' := ty') hK hT hU hi ho h0 hml
  refine vl ?_ (h v' A' w1 h2 h3)
  unfold St execOp
  simp only [resolve, Sem.run_bind, Sem.run_pure, Result.andThen_ok, invoke, builtin, List.map_toArray, List.map_cons, List.map_nil, hx, hy, hr]
theorem exS {F : FuncId} {x : Operand} {ts : Array TypeId} {v u : Value} (hf : ∀ w, (callFunc F #[v]).run P w = .ok (.value u) w) (hx : ev n f x = v) :
    St P n ⟨dst, .call ⟨.value (.func F), #[x], ts⟩, ty, pos, af, g⟩ f w u w := by
  have hF : ev n f (.func F) = .func (.func F) #[] #[] := rfl
  unfold St execOp
  simp only [resolve, hF, Deferred.ofValue, Sem.run_bind, Sem.run_pure, Result.andThen_ok, invoke, List.map_toArray, List.map_cons, List.map_nil, hx, List.append_toArray, List.append_nil, List.nil_append]
  exact hf w
theorem toU {S D t e' cells : Nat} {x : Operand} {a : Addr} (hS : P.underlying S = some (.pointer t)) (hD : P.underlying D = some .unsafePointer) (hj : (P.info? t).map (fun i => i.size == 0) = some false) (hx : ev n f x = .pointer (some a))
    (hsh : w.shape? a.block = some (e', cells)) (hoff : a.off < cells) : St P n ⟨dst, .convert S D x, ty, pos, af, g⟩ f w (.pointer (some a)) w := by
  obtain ⟨j, hj1, hj2⟩ := Option.map_eq_some_iff.1 hj
  unfold St execOp
  simp only [hx]
  have := Lib.run_to_unsafe (P := P) w a hS hD hj1 (by simpa using hj2) hsh hoff
  simp [this]
theorem ofU {S D t e' cells : Nat} {x : Operand} {a : Addr} (hS : P.underlying S = some .unsafePointer) (hD : P.underlying D = some (.pointer t)) (hj : (P.info? t).map (fun i => i.size == 0) = some false) (hx : ev n f x = .pointer (some a))
    (hsh : w.shape? a.block = some (e', cells)) (hl : liesAt P P.depth e' (cells / P.cellsOf e') a.off t 1 = true) : St P n ⟨dst, .convert S D x, ty, pos, af, g⟩ f w (.pointer (some a)) w := by
  obtain ⟨j, hj1, hj2⟩ := Option.map_eq_some_iff.1 hj
  unfold St execOp
  simp only [hx]
  have := Lib.run_from_unsafe (P := P) w a hS hD hj1 hsh hl
  simp [this]
theorem row_shape {l : List Value} {b t : Nat} (h : w.heap[b]? = some (row l t)) : w.shape? b = some (t, l.length) := by simp [World.shape?, h, row]
theorem nePs {T T' t : Nat} {x y : Operand} {a : Addr} (hT : P.underlying T = some (.pointer t)) (hj : (P.info? t).map (fun i => i.size == 0) = some false) (hx : ev n f x = .pointer (some a)) (hy : ev n f y = .pointer (some a)) :
    St P n ⟨dst, .binOp .neq T x y T', ty, pos, af, g⟩ f w (.bool false) w := by
  obtain ⟨j, hj1, _⟩ := Option.map_eq_some_iff.1 hj
  have := Lib.run_neq_ptr_same (P := P) w a hT hj1
  unfold St execOp
  simp [hx, hy, eqGuard, this]
theorem usd {x : Operand} {ts : Array TypeId} {m c : Nat} {a : Addr} (hx : ev n f x = .slice (some a) m c) (hc : c ≠ 0) :
    St P n ⟨dst, .call ⟨.builtin .unsafeSliceData, #[x], ts⟩, ty, pos, af, g⟩ f w (.pointer (some a)) w := by
  unfold St execOp
  simp [resolve, invoke, builtin, hx, Lib.run_unsafeSliceData_row _ _ _ _ _ _ hc]
theorem K.freeze {b k : Nat} {o : Obj} (hK : K e w G ((b, o) :: L)) : K e (w.freeze ⟨b, 0, none⟩ k) G L := by
  have hnd := hK.nodup
  rw [List.map_cons, List.nodup_cons] at hnd
  have hgb : G b = none := hK.sep b o (List.mem_cons_self ..)
  have hne : ∀ j, j ≠ b → (w.freeze ⟨b, 0, none⟩ k).heap[j]? = w.heap[j]? := by
    intro j hj
    unfold World.freeze
    split
    · rfl
    · show (w.heap.modify b _)[j]? = _
      rw [Array.getElem?_modify, if_neg (fun h => hj h.symm)]
  have h1 : (w.freeze ⟨b, 0, none⟩ k).tape = w.tape ∧ (w.freeze ⟨b, 0, none⟩ k).os = w.os ∧ (w.freeze ⟨b, 0, none⟩ k).output = w.output := by
    unfold World.freeze; split <;> exact ⟨rfl, rfl, rfl⟩
  refine ⟨h1.1.trans hK.tape, h1.2.1.trans hK.os, h1.2.2.trans hK.out, fun j x hx => ?_, fun j x hx => ?_, fun j x hx => hK.sep j x (List.mem_cons_of_mem _ hx), hnd.2⟩
  · rw [hne j (by rintro rfl; rw [hgb] at hx; cases hx)]; exact hK.view j x hx
  · rw [hne j (by rintro rfl; exact hnd.1 (List.mem_map_of_mem (f := (·.1)) hx))]; exact hK.own j x (List.mem_cons_of_mem _ hx)
theorem usS {pt it E' m : Nat} {x y : Operand} {l : List UInt8} {b cap : Nat} (hp : P.underlying pt = some (.pointer E')) (hc1 : P.cellsOf E' = 1) (hK : K e w G (A ++ L)) (ho : OS 1 E' (.slice (some ⟨b, 0, none⟩) m cap) m (bys l) A) (h0 : l ≠ []) (hl : l.length ≤ 1000000000)
    (hx : ev n f x = .pointer (some ⟨b, 0, none⟩)) (hy : ev n f y = .int .i64 (l.length : Int)) (h : ∀ w1, K e w1 G L → WL P n ops Q rest (upd f d (Sv l)) w1) :
    WL P n ops Q (⟨some d, .call ⟨.builtin .unsafeString, #[x, y], #[pt, it]⟩, ty, pos, af, none⟩ :: rest) f w := by
  have hcell : ∀ j u, (bys l)[j]? = some u → w.cell? (elA (.slice (some ⟨b, 0, none⟩) m cap) j) = some u := fun j u hj => ho.cell hK hj
  obtain ⟨hml, ⟨h1, _⟩ | ⟨b', cap', cur, h1, rfl, p1, p2, p3, p4⟩⟩ := ho
  · cases h1
  · injection h1 with h1 _ h3
    injection h1 with h1
    injection h1 with h1
    subst h1
    rw [bys_len] at hml
    have hb := hK.own b _ (List.mem_append_left _ (List.mem_cons_self ..))
    have hr := Lib.run_unsafeString_row (P := P) w pt it ty E' hp hc1 b cur.size (by simp [World.shape?, hb]) l h0 (by omega) (by omega) (fun j u hj => by
      have := hcell j (.int .u8 u.toNat) (by simp [bys, hj])
      have hadd : (⟨b, 0, none⟩ : Addr).add j = ⟨b, 0 + j, none⟩ := by
        unfold Addr.add
        split
        · rename_i h; rw [h]
        · rfl
      rw [hadd]; exact this)
    refine vl ?_ (h (w.freeze ⟨b, 0, none⟩ l.length) (K.freeze hK))
    unfold St execOp
    simp only [resolve, Sem.run_bind, Sem.run_pure, Result.andThen_ok, invoke, builtin, List.map_toArray, List.map_cons, List.map_nil, hx, hy, hr]
    rfl
end
open Go
section
variable {P : Program} {n : Nat} {Q : Po} {f : Sl} {w : World} {ops : Array Oper} {rest : List Oper} {d : Nat} {ty : TypeId} {pos : String} {af : Array Edge} {e : World} {G : View} {L : Own}
theorem mkc {T E' sz bytes m : Nat} {z : Value} {zl : List Value} {x y : Operand} (hK : K e w G L) (hT : P.underlying T = some (.slice E')) (hi : Inf P E' z sz bytes) (hz : z.cells = zl.toArray) (hl : zl.length = sz) (hsz : Nat.ble 1 sz = true)
    (hx : ev n f x = .int .i64 0) (hy : ev n f y = .int .i64 (m : Int)) (hm0 : 0 < m) (hm : m ≤ 100000000) (hby : Nat.ble bytes 1000 = true)
    (h : ∀ b w1, OS sz E' (.slice (some ⟨b, 0, none⟩) 0 m) 0 [] [(b, row (List.replicate m zl).flatten E')] → K e w1 G ((b, row (List.replicate m zl).flatten E') :: L) →
      WL P n ops Q rest (upd f d (.slice (some ⟨b, 0, none⟩) 0 m)) w1) :
    WL P n ops Q (⟨some d, .makeSlice T x y, ty, pos, af, none⟩ :: rest) f w := by
  obtain ⟨i, g1, g2, g3, g4⟩ := hi.get
  have hb1 : bytes ≤ 1000 := Nat.le_of_ble_eq_true hby
  have hs1 : 1 ≤ sz := Nat.le_of_ble_eq_true hsz
  have hlen : (List.replicate m zl).flatten.length = m * sz := by rw [List.length_flatten, List.map_replicate, List.sum_replicate_nat, hl]
  have hrow : row (List.replicate m zl).flatten E' = Obj.cells ((Array.range (m * sz)).map fun k => z.cells[k % z.cells.size]!) E' (0, 0) := by
    unfold row
    congr 1
    apply Array.ext
    · simp [hlen]
    · intro j h1 h2
      have hj : j < m * sz := by simpa using h2
      have hg := flat_get zl m (by omega) j (by rw [hl]; exact hj)
      have hmod : j % zl.length < zl.length := Nat.mod_lt _ (by omega)
      have h3 : (List.replicate m zl).flatten[j]'(by rw [hlen]; exact hj) = zl[j % zl.length] := by
        have e1 : (List.replicate m zl).flatten[j]? = some (List.replicate m zl).flatten[j] := List.getElem?_eq_getElem (by rw [hlen]; exact hj)
        rw [e1, List.getElem?_eq_getElem hmod] at hg
        exact Option.some.inj hg
      simp only [List.getElem_toArray, Array.getElem_map, Array.getElem_range, hz, List.size_toArray]
      rw [h3]
      simp [hmod]
  refine vl ?_ (h w.heap.size (w.alloc (row (List.replicate m zl).flatten E')) ⟨by simp, .inr ⟨_, m, (List.replicate m zl).flatten.toArray, rfl, rfl, Nat.zero_le _, by unfold maxLen; omega, by simpa using hlen, by simp⟩⟩ (hK.alloc _))
  have hbm := Nat.mul_le_mul hb1 hm
  have hbm' : bytes * m ≤ 100000000000 := hbm
  have h1 : IntKind.i64.wrap (m : Int) = (m : Int) := wrap64_in (show (-9223372036854775808 : Int) ≤ _ by omega) (show _ ≤ (9223372036854775807 : Int) by omega)
  have h10 : IntKind.i64.wrap 0 = 0 := wrap64_in (by decide) (by decide)
  have hbmi : ((bytes : Int) * (m : Int)) ≤ 100000000000 := by rw [← Int.natCast_mul]; omega
  have hroom : ¬ (m * bytes > roomBytes) := by
    rw [Nat.mul_comm]
    show ¬ (bytes * m > 140737488355328)
    omega
  unfold St execOp
  have h0 : ¬ (m * sz = 0) := by
    intro h0
    rcases Nat.mul_eq_zero.1 h0 with h | h <;> omega
  have hzv : (zeroValue E').run P w = .ok z w := by simp [zeroValue, typeInfo, g1, g2]
  rw [hrow]
  have hmi : ¬ (m : Int) < 0 := by omega
  have hti : ¬ (281474976710656 : Int) < (bytes : Int) * (m : Int) := by omega
  simp only [hx, hy, Instr.makeSlice, Sem.run_bind, run_underlying hT, Result.andThen_ok, asInt, asIntOf, Sem.run_pure, typeInfo, run_program, g1, g4, h1, h10]
  simp [hmi, hti, askRoom, hroom, sizeOf, typeInfo, g1, g3, h0, hzv, newRow]
end
end Go.Ro
set_option linter.unusedVariables false
namespace Go.Proofs
open Go Go.Ro Go.Shelf Go.RowKit Go.Lib
variable {P : Program} {ρ : Ren}
theorem split1 (L : Lays.n146 P ρ) (hi9 : (P.info? (ρ.t 9)).map (fun i => (i.zero, i.size, i.bytes)) = some (some (.string ByteArray.empty), 1, 16)) (l : List UInt8) (c : UInt8) (w : World) (hl : l.length < 4294967281) :
    Calls P (ρ.f 146) #[Sv l, Sv [c]] w fun e w' => e = .returned (.slice (some ⟨w.heap.size, 0, none⟩) (ctL c l).length (ctL c l).length) ∧ w' = w.alloc (Ro.row ((ctL c l).flatMap sc) (ρ.t 9)) := by
  have hs : (⟨l.toArray⟩ : ByteArray).size < 4294967281 := by rw [ssz]; exact hl
  have h1 : 1 ≤ (⟨[c].toArray⟩ : ByteArray).size := by rw [ssz]; exact Nat.le_refl _
  have hle := Lib.countB_le ⟨[c].toArray⟩ h1 (⟨l.toArray⟩ : ByteArray).size ⟨l.toArray⟩ (Nat.le_refl _)
  have hlen := Lib.splitB_all ⟨[c].toArray⟩ h1 0 _ ⟨l.toArray⟩ rfl
  have hI : ∀ (x : ByteArray) (cs : Array Value), x.size ≤ (⟨l.toArray⟩ : ByteArray).size → Calls P (ρ.f 143) #[.string x, .string ⟨[c].toArray⟩] (w.alloc (.cells cs (ρ.t 9))) fun e w' => e = .returned (.int .i64 (Lib.indexB x ⟨[c].toArray⟩)) ∧ w' = w.alloc (.cells cs (ρ.t 9)) :=
    fun x cs hx => (Any.strings_Index_one { L with } x c _).mono fun e w' ⟨he, hw⟩ => ⟨by
      rw [he]
      show _ = Ending.returned (Value.int .i64 (Lib.index x.data.toList [c]))
      rw [Lib.index_one], hw⟩
  have hC : Calls P (ρ.f 138) #[.string ⟨l.toArray⟩, .string ⟨[c].toArray⟩] w fun e w' => e = .returned (.int .i64 (Lib.countB ⟨l.toArray⟩ ⟨[c].toArray⟩)) ∧ w' = w :=
    (Any.strings_Count_one { L with } ⟨l.toArray⟩ c w).mono fun e w' ⟨he, hw⟩ => ⟨by
      rw [he]
      show _ = Ending.returned (Value.int .i64 ((Lib.count l [c] : Nat) : Int))
      rw [Lib.count_one]; rfl, hw⟩
  have g := Any.strings_genSplit_core { L with } hi9 ⟨l.toArray⟩ ⟨[c].toArray⟩ 0 (-1) (Lib.countB ⟨l.toArray⟩ ⟨[c].toArray⟩ + 1) w hs h1 (Nat.zero_le _) hI hC (by decide) (by decide) (by rw [if_pos (by decide)]; omega)
  rw [Nat.add_sub_cancel, hlen] at g
  have e2 : Lib.cellsOf (Lib.splitB ⟨[c].toArray⟩ 0 (Lib.countB ⟨l.toArray⟩ ⟨[c].toArray⟩) ⟨l.toArray⟩) (Lib.countB ⟨l.toArray⟩ ⟨[c].toArray⟩ + 1) = ((Lib.splitB ⟨[c].toArray⟩ 0 (Lib.countB ⟨l.toArray⟩ ⟨[c].toArray⟩) ⟨l.toArray⟩).map Value.string).toArray := by rw [← hlen]; exact Lib.cellsOf_full _
  have e3 : Lib.countB ⟨l.toArray⟩ ⟨[c].toArray⟩ + 1 = (ctL c l).length := by
    rw [ctL_len]
    show Lib.count l [c] + 1 = _
    rw [Lib.count_one]
  have e4 : (Lib.splitB ⟨[c].toArray⟩ 0 (Lib.countB ⟨l.toArray⟩ ⟨[c].toArray⟩) ⟨l.toArray⟩).map Value.string = (ctL c l).flatMap sc := split_row l c
  rw [e2, e3, e4] at g
  have t3 := L.t3; have t9 := L.t9; have t31 := L.t31
  have a3 := L.a3; have a9 := L.a9; have a31 := L.a31
  have z3 := L.z3; have v3 := L.v3; have z9 := L.z9; have v9 := L.v9; have z31 := L.z31; have v31 := L.v31
  have e221 : ∀ args w, (callFunc (ρ.f 221) args).run P w = .ok (.enter (ρ.f 221) args) w := enters_of L.f221 (by kernel_rfl) rfl
  go_enter L.f146, Body.n146_ntmps ρ
  go_wp2_with (go_at_fn (ρ.f 221); refine g.mono ?_; rintro e w' ⟨rfl, hw⟩; rw [hw])
  go_ret
  exact ⟨rfl, rfl⟩
end Go.Proofs
namespace Go.Ro
open Go
def P0P (R : World → Prop) (Pn : List PanicEntry → World → Prop) : Po
  | .normal, _, w => R w
  | .ret, _, w => R w
  | .panic ch, _, w => Pn ch w
  | _, _, _ => False
def RetP (P : Program) (F : FuncId) (args : Array Value) (w : World) (R : World → Prop) (Pn : List PanicEntry → World → Prop) : Prop :=
  Calls P F args w fun e w' => (e = .returned (.tuple #[]) ∧ R w') ∨ ∃ ch, e = .panicked ch ∧ Pn ch w'
section
variable {P : Program} {n : Nat} {Q : Po} {f : Sl} {w w' : World} {ops : Array Oper} {rest : List Oper} {R : World → Prop} {Pn : List PanicEntry → World → Prop} {ty : TypeId} {pos : String} {af : Array Edge} {dst : Option Tmp}
theorem pp0n (h : R w) : P0P R Pn .normal f w := h
theorem enter0p {F : FuncId} {fn : Func} {c : Code} {args : List Value} (hf : P.funcs[F]? = some fn) (hb : fn.body = some c) (hn : fn.ntmps = n) (hr : fn.results = #[]) (hl : Nat.ble args.length n = true)
    (h : W P n c (P0P R Pn) (ini args) w) : RetP P F args.toArray w R Pn := by
  refine calls_of_wp hf hb ?_
  rw [act_ini hn hl]
  refine wp_mono h ?_
  rintro e a w ⟨g, rfl, q⟩
  cases e with
  | normal => exact ⟨rfl, _, results_none hr _ _ _, .inl ⟨rfl, q⟩⟩
  | ret => exact ⟨rfl, _, results_none hr _ _ _, .inl ⟨rfl, q⟩⟩
  | panic ch => exact ⟨rfl, .inr ⟨ch, rfl, q⟩⟩
  | _ => exact q.elim
theorem pnc {x : Operand} {T : TypeId} {v : Value} (hx : ev n f x = .iface T v) (h : Q (.panic [{ v := .iface T v, recovered := false }]) f w) :
    WL P n ops Q (⟨none, .panic x, ty, pos, af, none⟩ :: rest) f w := by
  refine wpList_plain rfl fun K hK => ?_
  show Oper.upon P _ _ _ _ ((execOp (mkA n f).eval _).run P w)
  rw [mkA_evalF]
  have e1 : (execOp (ev n f) ⟨none, .panic x, ty, pos, af, none⟩).run P w = .halt (.panic (.iface T v)) w := by
    unfold execOp; simp [hx, run_panic_iface]
  rw [e1]
  exact ⟨f, rfl, h⟩
theorem dfC {Q : Exit → Act → World → Prop} {F : FuncId} {x : Operand} {cap : Array Value} {ts : Array TypeId} (hx : ev n f x = .func (.func F) #[] cap)
    (h : wpList P ops Q rest (addD [{ target := .fn (.func F) cap, args := #[] }] (mkA n f)) w) : wpList P ops Q (⟨none, .defer ⟨.value x, #[], ts⟩, ty, pos, af, none⟩ :: rest) (mkA n f) w := by
  refine wpList_plain rfl fun K hK => ?_
  show Oper.upon P _ _ _ _ ((execOp (mkA n f).eval _).run P w)
  rw [mkA_evalF]
  have e1 : (execOp (ev n f) ⟨none, .defer ⟨.value x, #[], ts⟩, ty, pos, af, none⟩).run P w = .ok (.defer { target := .fn (.func F) cap, args := #[] }) w := by
    unfold execOp
    simp [resolve, hx, Deferred.ofValue]
  rw [e1]
  exact hK _ _ h
/-! a region in any order, behind a deferred call, in which a call may panic -/
def NqP (D : List Deferred) (Qn : World → Prop) (Pn : List PanicEntry → World → Prop) : Exit → Act → World → Prop := fun e a w =>
  (e = .normal ∧ a.defers = D ∧ Qn w) ∨ ∃ ch, e = .panic ch ∧ a.defers = D ∧ Pn ch w
def WXP (P : Program) (n : Nat) (D : List Deferred) (ops : Array Oper) (S Qn : World → Prop) (Pn : List PanicEntry → World → Prop) (k : Nat) (l : List Bool) (f : Sl) (w : World) : Prop :=
  wpAnyH P .any ops (NqP D Qn Pn) S k l.toArray (addD D (mkA n f)) w
variable {D : List Deferred} {S Qn : World → Prop} {k : Nat} {l l' : List Bool}
theorem put_defers {a : Act} {d : Option Tmp} {v : Value} : (a.put d v).defers = a.defers := by cases d <;> rfl
theorem rgP {id : Nat} {ol : List Oper} {Q : Exit → Act → World → Prop} {C : World → Prop} (S Qn : World → Prop) (Pn : List PanicEntry → World → Prop) (l : List Bool) (hm : P.follows .mixedOrders = true) (hl : Array.replicate ol.toArray.size false = l.toArray) (hk : ol.toArray.size = k) (hC : C { w with drawn := w.drawn + 1 })
    (h : ∀ w, C w → WXP P n D ol.toArray S Qn Pn k l f w) (h1 : ∀ a w, a.defers = D → Qn w → Q .normal a w) (h2 : ∀ ch a w, a.defers = D → Pn ch w → Q (.panic ch) a w) :
    (Code.region id ol.toArray true).wp P Q (addD D (mkA n f)) w := by
  have h0 : (Code.region id ol.toArray true).wp P (NqP D Qn Pn) (addD D (mkA n f)) w := by
    refine wp_region_held (S := S) hm ?_
    rw [hl, hk]; exact h _ hC
  refine wp_mono h0 ?_
  rintro e a w (⟨rfl, hd, hq⟩ | ⟨ch, rfl, hd, hp⟩)
  · exact h1 a w hd hq
  · exact h2 ch a w hd hp
theorem xtP {i : Nat} {o : Oper} {v : Value} (hi : ops[i]? = some o) (hc : (Region.noSelect ops && Region.free .any ops l.toArray i && (Region.ready .any ops l.toArray).contains i) = true) (hl : l.set i true = l')
    (hg : o.guard = none) (hy : ∀ w, S w → St P n o f w v w) (hS : S w) (h : WXP P n D ops S Qn Pn k l' (updO f o.dst v) w) : WXP P n D ops S Qn Pn (k + 1) l f w := by
  simp only [Bool.and_eq_true] at hc
  unfold WXP at *
  refine wpAnyH_take (v := v) hi hc.1.1 hc.1.2 hc.2 ?_ (.inl ⟨by simp [Region.wanted, hg], fun w' hw' => ?_⟩) hS ?_
  · rintro c a w (⟨h, _⟩ | ⟨ch, h, hd, hp⟩)
    · cases h
    · exact .inr ⟨ch, h, put_defers.symm.trans hd, hp⟩
  · show (execOp (mkA n f).eval o).run P w' = _
    rw [mkA_evalF]; exact hy w' hw'
  · rw [listed_set hl, put_addD, mkA_put]; exact h
theorem run_clop {F : FuncId} {l : List Operand} {ts : Array TypeId} {vs : List Value} (hf : ∀ args w, (callFunc F args).run P w = .ok (.enter F args) w) (ha : l.map (ev n f) = vs) :
    (execOp (ev n f) ⟨dst, .call ⟨.value (.func F), l.toArray, ts⟩, ty, pos, af, none⟩).run P w = .ok (.enter F vs.toArray) w := by
  unfold execOp
  simp only [resolve, Deferred.ofValue, ev, Sem.run_bind, Sem.run_pure, Result.andThen_ok, invoke, List.map_toArray, ha, List.append_toArray, List.append_nil]
  exact hf _ _
theorem xcP {i : Nat} {F : FuncId} {lo : List Operand} {ts : Array TypeId} {vs : List Value} {V : Value → World → Prop} (hr : Region.ready .any ops l.toArray = [i]) (hi : ops[i]? = some ⟨dst, .call ⟨.value (.func F), lo.toArray, ts⟩, ty, pos, af, none⟩) (hl : l.set i true = l')
    (hf : ∀ args w, (callFunc F args).run P w = .ok (.enter F args) w) (ha : lo.map (ev n f) = vs) (hc : Ret P F vs.toArray w V)
    (h : ∀ v w', V v w' → S w' ∧ WXP P n D ops S Qn Pn k l' (updO f dst v) w') : WXP P n D ops S Qn Pn (k + 1) l f w := by
  unfold WXP at *
  refine wpAnyH_all hr (by simp) ?_
  intro j hj
  obtain rfl := List.mem_singleton.1 hj
  unfold wpOp
  simp only [hi]
  rw [if_pos (by simp [Region.wanted])]
  refine .inl ?_
  show Oper.upon P _ _ _ _ ((execOp (mkA n f).eval _).run P w)
  rw [mkA_evalF, run_clop hf ha]
  refine Calls.mono hc ?_
  rintro e w' ⟨v, rfl, hV⟩
  have := h v w' hV
  show S w' ∧ _
  rw [listed_set hl, put_addD, mkA_put]; exact this
theorem xpP {i : Nat} {F : FuncId} {lo : List Operand} {ts : Array TypeId} {vs : List Value} {V : World → Prop} {Pm : List PanicEntry → World → Prop} (hr : Region.ready .any ops l.toArray = [i]) (hi : ops[i]? = some ⟨dst, .call ⟨.value (.func F), lo.toArray, ts⟩, ty, pos, af, none⟩) (hl : l.set i true = l')
    (hf : ∀ args w, (callFunc F args).run P w = .ok (.enter F args) w) (ha : lo.map (ev n f) = vs) (hc : RetP P F vs.toArray w V Pm)
    (h : ∀ w', V w' → S w' ∧ WXP P n D ops S Qn Pn k l' (updO f dst (.tuple #[])) w') (hp : ∀ ch w', Pm ch w' → Pn ch w') : WXP P n D ops S Qn Pn (k + 1) l f w := by
  unfold WXP at *
  refine wpAnyH_all hr (by simp) ?_
  intro j hj
  obtain rfl := List.mem_singleton.1 hj
  unfold wpOp
  simp only [hi]
  rw [if_pos (by simp [Region.wanted])]
  refine .inl ?_
  show Oper.upon P _ _ _ _ ((execOp (mkA n f).eval _).run P w)
  rw [mkA_evalF, run_clop hf ha]
  refine Calls.mono hc ?_
  rintro e w' (⟨rfl, hV⟩ | ⟨ch, rfl, hP⟩)
  · have := h w' hV
    show S w' ∧ _
    rw [listed_set hl, put_addD, mkA_put]; exact this
  · exact .inr ⟨ch, rfl, rfl, hp ch w' hP⟩
theorem xdP (hr : Region.ready .any ops l.toArray = []) (h : Qn w) : WXP P n D ops S Qn Pn k l f w := wpAnyH_done hr (.inl ⟨rfl, rfl, h⟩) k
end
end Go.Ro
