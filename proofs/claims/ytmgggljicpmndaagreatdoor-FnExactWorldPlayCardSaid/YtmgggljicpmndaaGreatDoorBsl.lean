/- copy, clear, and slices of one's own beyond their length. Binary search, plain; numbers without sign. Conditions: those that each row states. -/
import Derived.Test.YtmgggljicpmndaaGreatDoorOx
import Derived.Laws.CopyRow
import Derived.Lib.Overlaps
import Derived.Laws.Externs
namespace Go.Ro
open Go
theorem oneC {u : Value} (h : Ro.one u = true) : u.oneCell' = true := by cases u <;> first | rfl | (simp [Ro.one] at h)
section
variable {P : Program} {n : Nat} {Q : Po} {f : Sl} {w : World} {ops : Array Oper} {rest : List Oper}
  {dst : Option Tmp} {d : Nat} {ty : TypeId} {pos : String} {af : Array Edge} {g : Option (Nat × Bool)} {e : World} {G : View} {L A : Own}
theorem run_copyN (w : World) (dT sT ty elem : TypeId) (sz b o dl dc : Nat) (a : Addr) (sl sc : Nat) (cur : Array Value) (t : TypeId) (cs : List Value)
    (hu : P.underlying dT = some (.slice elem)) (hs : (P.info? elem).map (·.size) = some sz)
    (hg : w.heap[b]? = some (.cells cur t (0, 0))) (hn : cs.length = Nat.min sl dl * sz)
    (hsrc : ∀ j v, cs[j]? = some v → w.cell? (a.add j) = some v) (hfit : o + cs.length ≤ cur.size) (h1 : ∀ v ∈ cs, v.oneCell' = true) :
    (Builtin.copy_ #[dT, sT] ty #[.slice (some ⟨b, o, none⟩) dl dc, .slice (some a) sl sc]).run P w =
      .ok (goInt (Nat.min sl dl)) (w.setRow b (cur.toList.take o ++ cs ++ cur.toList.drop (o + cs.length)).toArray) := by
  have hl := run_loadCells_list (P := P) w a cs hsrc
  have hst := run_storeCells_at P b o t cs 0 cur w hg (by simpa using hfit) h1
  cases hq : P.info? elem with
  | none => simp [hq] at hs
  | some i =>
    have hi : i.size = sz := by simpa [hq] using hs
    simp [Builtin.copy_, run_underlying hu, Builtin.lenOf, Builtin.firstCells, sizeOf, typeInfo, hq, hi, ← hn, hl, hst]
theorem cpK {dT sT E' sz b o dl dc sl sc t : Nat} {cur : Array Value} {a : Addr} {cs : List Value} {x y : Operand} (hK : K e w G ((b, .cells cur t (0, 0)) :: L)) (hT : P.underlying dT = some (.slice E')) (hE : (P.info? E').map (·.size) = some sz)
    (hx : ev n f x = .slice (some ⟨b, o, none⟩) dl dc) (hy : ev n f y = .slice (some a) sl sc) (hl : cs.length = Nat.min sl dl * sz) (hs : ∀ j v, cs[j]? = some v → w.cell? (a.add j) = some v)
    (hfit : o + cs.length ≤ cur.size) (h1 : ∀ u ∈ cs, Ro.one u = true)
    (h : ∀ w1, K e w1 G ((b, .cells (cur.toList.take o ++ cs ++ cur.toList.drop (o + cs.length)).toArray t (0, 0)) :: L) → WL P n ops Q rest (updO f dst (goInt (Nat.min sl dl))) w1) :
    WL P n ops Q (⟨dst, .call ⟨.builtin .copy, #[x, y], #[dT, sT]⟩, ty, pos, af, none⟩ :: rest) f w := by
  have hb := hK.own b _ (List.mem_cons_self ..)
  have hr := run_copyN (P := P) w dT sT ty E' sz b o dl dc a sl sc cur t cs hT hE hb hl hs hfit (fun u hu => oneC (h1 u hu))
  refine val rfl ?_ (h (w.setRow b (cur.toList.take o ++ cs ++ cur.toList.drop (o + cs.length)).toArray) (K.write (L := L) hK rfl rfl rfl (setRow_heap w b cur _ t _ hb) (fun k' hk' x hx => by rw [setRow_other w b k' _ hk']; exact hx)))
  unfold execOp
  simp only [resolve, Sem.run_bind, Sem.run_pure, Result.andThen_ok, invoke, builtin, List.map_toArray, List.map_cons, List.map_nil, hx, hy, hr]
theorem clK {T E' sz b o k c t by' : Nat} {z : Value} {cur : Array Value} {x : Operand} (hK : K e w G ((b, .cells cur t (0, 0)) :: L)) (hT : P.underlying T = some (.slice E')) (hi : Inf P E' z sz by') (hz : z.cells.size = sz) (hzo : z.cells.toList.all Ro.one = true)
    (hx : ev n f x = .slice (some ⟨b, o, none⟩) k c) (hfit : o + k * sz ≤ cur.size)
    (h : ∀ w1, K e w1 G ((b, .cells (cur.toList.take o ++ (Builtin.zeroCells z.cells k).toList ++ cur.toList.drop (o + k * sz)).toArray t (0, 0)) :: L) → WL P n ops Q rest (updO f dst (.tuple #[])) w1) :
    WL P n ops Q (⟨dst, .call ⟨.builtin .clear, #[x], #[T]⟩, ty, pos, af, none⟩ :: rest) f w := by
  obtain ⟨i, g1, g2, g3, g4⟩ := hi.get
  have hb := hK.own b _ (List.mem_cons_self ..)
  have hzl : (Builtin.zeroCells z.cells k).toList.length = k * sz := by rw [Array.length_toList, size_zeroCells, hz]
  have hone : ∀ u ∈ (Builtin.zeroCells z.cells k).toList, u.oneCell' = true := by
    intro u hu
    unfold Builtin.zeroCells at hu
    simp only [Array.toList_map, Array.toList_range, List.mem_map, List.mem_range] at hu
    obtain ⟨j, hj, rfl⟩ := hu
    have h0 : 0 < z.cells.size := by
      rcases Nat.eq_zero_or_pos z.cells.size with h | h
      · rw [h] at hj; simp at hj
      · exact h
    have hm : j % z.cells.size < z.cells.size := Nat.mod_lt _ h0
    rw [getElem!_pos z.cells _ hm]
    exact oneC (List.all_eq_true.1 hzo _ (by rw [Array.mem_toList_iff]; exact Array.getElem_mem hm))
  have hst := run_storeCells_at P b o t (Builtin.zeroCells z.cells k).toList 0 cur w hb (by rw [hzl]; simpa using hfit) hone
  simp only [Nat.add_zero, hzl] at hst
  have hzv : ∀ w, (zeroValue E').run P w = .ok z w := by
    intro w; simp [zeroValue, typeInfo, g1, g2]
  refine val (v := .tuple #[]) rfl ?_ (h (w.setRow b (cur.toList.take o ++ (Builtin.zeroCells z.cells k).toList ++ cur.toList.drop (o + k * sz)).toArray) (K.write (L := L) hK rfl rfl rfl (setRow_heap w b cur _ t _ hb) (fun k' hk' x hx => by rw [setRow_other w b k' _ hk']; exact hx)))
  unfold execOp
  simp only [resolve, Sem.run_bind, Sem.run_pure, Result.andThen_ok, invoke, builtin, List.map_toArray, List.map_cons, List.map_nil, hx]
  rcases Nat.eq_zero_or_pos k with h0 | h0
  · subst h0
    simp only [Nat.zero_mul, Nat.add_zero] at hst ⊢
    have : (w.setRow b (cur.toList.take o ++ (Builtin.zeroCells z.cells 0).toList ++ cur.toList.drop o).toArray) = w := by
      have hz0 : (Builtin.zeroCells z.cells 0).toList = [] := by simp [Builtin.zeroCells]
      rw [hz0, List.append_nil, List.take_append_drop, Array.toArray_toList, setRow_self w b cur t (0, 0) hb]
    rw [this]
    simp [Builtin.clear_, run_underlying hT]
  · obtain ⟨m, rfl⟩ : ∃ m, k = m + 1 := ⟨k - 1, by omega⟩
    simp [Builtin.clear_, run_underlying hT, hzv, hst]
/-! slices within the capacity -/
theorem run_slcC {T E' sz m c l h mx : Nat} {a : Option Addr} {lo hi mo : Option Value} (hT : P.underlying T = some (.slice E')) (hE : (P.info? E').map (·.size) = some sz)
    (hlo : (lo = none ∧ l = 0) ∨ lo = some (.int .i64 (l : Int))) (hhi : (hi = none ∧ h = m) ∨ hi = some (.int .i64 (h : Int))) (hmo : (mo = none ∧ mx = c) ∨ (mo = some (.int .i64 (mx : Int)) ∧ hi.isSome = true)) (h1 : l ≤ h) (h2 : h ≤ mx) (h3 : mx ≤ c) (w : World) :
    (Instr.sliceAt T (.slice a m c) lo hi mo).run P w = .ok (.slice (if mx = l then a else a.map (·.add (l * sz))) (h - l) (mx - l)) w := by
  cases hq : P.info? E' with
  | none => rw [hq] at hE; cases hE
  | some q =>
    have hsz : q.size = sz := by simpa [hq] using hE
    rcases hlo with ⟨rfl, rfl⟩ | rfl <;> rcases hhi with ⟨rfl, rfl⟩ | rfl <;> rcases hmo with ⟨rfl, rfl⟩ | ⟨rfl, hmh⟩ <;> first | (cases hmh; done) |
      simp [Instr.sliceAt, run_underlying hT, Instr.slice, Instr.sliceBounds, Instr.sliceBound, asIntOf, sizeOf, typeInfo, hq, hsz, h1, h2, h3]
theorem slC {T E' sz m c l h mx : Nat} {a : Option Addr} {x : Operand} {lo hi mo : Option Operand} (hT : P.underlying T = some (.slice E')) (hE : (P.info? E').map (·.size) = some sz) (hx : ev n f x = .slice a m c)
    (hlo : (lo.map (ev n f) = none ∧ l = 0) ∨ lo.map (ev n f) = some (.int .i64 (l : Int))) (hhi : (hi.map (ev n f) = none ∧ h = m) ∨ hi.map (ev n f) = some (.int .i64 (h : Int)))
    (hmo : (mo.map (ev n f) = none ∧ mx = c) ∨ (mo.map (ev n f) = some (.int .i64 (mx : Int)) ∧ (hi.map (ev n f)).isSome = true)) (h1 : l ≤ h) (h2 : h ≤ mx) (h3 : mx ≤ c) :
    St P n ⟨dst, .slice T x lo hi mo, ty, pos, af, g⟩ f w (.slice (if mx = l then a else a.map (·.add (l * sz))) (h - l) (mx - l)) w := by
  unfold St execOp
  simp only [hx, Sem.run_bind, run_slcC hT hE hlo hhi hmo h1 h2 h3, Result.andThen_ok, Sem.run_pure]
theorem apRm {T E' ty' sz by' b i c k c2 : Nat} {z : Value} {cur : Array Value} {a : Addr} {cs : List Value} {x y : Operand} (hK : K e w G ((b, .cells cur E' (0, 0)) :: L)) (hT : P.underlying T = some (.slice E')) (hi : Inf P E' z sz by')
    (hx : ev n f x = .slice (some ⟨b, 0, none⟩) i c) (hy : ev n f y = .slice (some a) k c2) (hl : cs.length = k * sz) (hs : ∀ j v, cs[j]? = some v → w.cell? (a.add j) = some v) (hroom : i + k ≤ c)
    (hfit : i * sz + cs.length ≤ cur.size) (h1 : ∀ u ∈ cs, Ro.one u = true)
    (h : ∀ w1, K e w1 G ((b, .cells (cur.toList.take (i * sz) ++ cs ++ cur.toList.drop (i * sz + cs.length)).toArray E' (0, 0)) :: L) → WL P n ops Q rest (upd f d (.slice (some ⟨b, 0, none⟩) (i + k) c)) w1) :
    WL P n ops Q (⟨some d, .call ⟨.builtin .append, #[x, y], #[T, T]⟩, ty', pos, af, none⟩ :: rest) f w := by
  obtain ⟨q, g1, g2, g3, g4⟩ := hi.get
  have hb := hK.own b _ (List.mem_cons_self ..)
  have hr := run_append_room (P := P) w T ty' E' q hT g1 b i c cur hb a k c2 cs (by rw [g3]; exact hl) hs (fun u hu => oneC (h1 u hu)) hroom (by rw [g3]; exact hfit)
  rw [g3] at hr
  refine vl ?_ (h (w.setRow b (cur.toList.take (i * sz) ++ cs ++ cur.toList.drop (i * sz + cs.length)).toArray) (K.write (L := L) hK rfl rfl rfl (setRow_heap w b cur _ E' _ hb) (fun k' hk' x hx => by rw [setRow_other w b k' _ hk']; exact hx)))
  unfold St execOp
  simp only [resolve, Sem.run_bind, Sem.run_pure, Result.andThen_ok, invoke, builtin, List.map_toArray, List.map_cons, List.map_nil, hx, hy, hr]
theorem apZ {T Tn E' ty' sz by' i c k : Nat} {z : Value} {a : Addr} {cs : List Value} {x y : Operand} (hK : K e w G L) (hT : P.underlying T = some (.slice E')) (hTn : P.underlying Tn = some (.int .i64)) (hi : Inf P E' z sz by') (hz : z.cells.size = sz) (hsz : Nat.ble 1 sz = true) (hby : Nat.ble by' 1000 = true)
    (hx : ev n f x = .slice (some a) i c) (hy : ev n f y = .int .i64 (k : Int)) (hl : cs.length = i * sz) (hs : ∀ j v, cs[j]? = some v → w.cell? (a.add j) = some v) (hg : c < i + k) (hk0 : 0 < k) (hmk : i + k ≤ 1000000000)
    (h : ∀ b' c' (cur : Array Value) w1, i + k ≤ c' → c' ≤ maxLen → cur.size = c' * sz → cur.toList.take (i * sz) = cs → K e w1 G ((b', .cells cur E' (0, 0)) :: L) → WL P n ops Q rest (upd f d (.slice (some ⟨b', 0, none⟩) (i + k) c')) w1) :
    WL P n ops Q (⟨some d, .call ⟨.builtin .append, #[x, y], #[T, Tn]⟩, ty', pos, af, none⟩ :: rest) f w := by
  obtain ⟨q, g1, g2, g3, g4⟩ := hi.get
  have hby := Nat.le_of_ble_eq_true hby
  have hsz := Nat.le_of_ble_eq_true hsz
  have hn : ¬ (i + k ≤ c) := by omega
  have hfits : Builtin.nextslicecap (i + k) c * q.bytes ≤ 281474976710656 := growslice_fits (by omega) (by rw [g4]; have := Nat.mul_le_mul hmk hby; omega)
  have hw : IntKind.i64.wrap (k : Int) = k := by rw [IntKind.wrap_i64]; omega
  have h63' : ¬ (9223372036854775807 < ((i : Int) + (k : Int))) := by omega
  have h48' : ¬ (281474976710656 < Builtin.nextslicecap (i + k) c * q.bytes) := by omega
  have h48i : ¬ (281474976710656 < (k : Int) * (q.bytes : Int)) := by
    rw [← Int.natCast_mul, g4]
    have := Nat.mul_le_mul (show k ≤ 1000000000 by omega) hby
    omega
  have hneg : ¬ ((k : Int) < 0) := by omega
  have hns : ¬ (k * q.size = 0) := Nat.mul_ne_zero (by omega) (by rw [g3]; omega)
  have hfo := run_firstCells_some (P := P) w.drew q.size i a i c cs (by rw [g3]; exact hl) (by simpa using hs)
  have hr : (Builtin.append_ #[T, Tn] ty' #[.slice (some a) i c, .int .i64 (k : Int)]).run P w =
      .ok (.slice (some ⟨w.heap.size, 0, none⟩) (i + k) (grownCap w (i + k) c E')) (w.drew.alloc (.cells (cs.toArray ++ Builtin.zeroCells z.cells k ++ Builtin.zeroCells z.cells (grownCap w (i + k) c E' - (i + k))) E')) := by
    simp [Builtin.append_, run_underlying hT, run_underlying hTn, sizeOf, typeInfo, zeroValue, g1, g2, asInt, asIntOf, hw, hn, hneg, hns, h63', h48', h48i, Question.forced, hfo, newRow, grownCap]
  have hge := grownCap_ge w (i + k) c E'
  refine vl ?_ (h w.heap.size (grownCap w (i + k) c E') (cs.toArray ++ Builtin.zeroCells z.cells k ++ Builtin.zeroCells z.cells (grownCap w (i + k) c E' - (i + k))) _ hge (grownCap_le_maxLen w (i + k) c E' (by unfold maxLen; omega)) ?_ ?_ ((K.drawn hK (w.drawn + 1)).alloc _))
  · unfold St execOp
    simp only [resolve, Sem.run_bind, Sem.run_pure, Result.andThen_ok, invoke, builtin, List.map_toArray, List.map_cons, List.map_nil, hx, hy, hr]
    rfl
  · simp only [Array.size_append, List.size_toArray, size_zeroCells, hz, hl, ← Nat.add_mul]
    congr 1
    omega
  · simp only [Array.toList_append, List.append_assoc]
    rw [← hl]
    exact List.take_left
theorem exC {F : FuncId} {l : List Operand} {ts : Array TypeId} {vs : List Value} {v : Value} (ha : l.map (ev n f) = vs) (hc : (callFunc F vs.toArray).run P w = .ok (.value v) w) :
    St P n ⟨dst, .call ⟨.value (.func F), l.toArray, ts⟩, ty, pos, af, g⟩ f w v w := by
  unfold St execOp
  simp only [resolve, Deferred.ofValue, ev, Sem.run_bind, Sem.run_pure, Result.andThen_ok, invoke, List.map_toArray, ha, List.append_toArray, List.append_nil]
  exact hc
theorem run_ovl {F : FuncId} {fn : Func} {tS tR E' sz by' b1 b2 o1 o2 l1 c1 l2 c2 t1 t2 : Nat} {z : Value} {cu1 cu2 : Array Value} (hf : P.funcs[F]? = some fn) (hn : (fn.name == "runtime.NumGoroutine") = false) (hb : fn.body.isNone = true) (hnx : Extern.findNext fn = none)
    (he : Extern.find fn = some (Extern.SlicesOverlaps.overlaps #[tS, tS] #[tR])) (hT : P.underlying tS = some (.slice E')) (hi : Inf P E' z sz by') (hne : b1 ≠ b2)
    (h1 : w.heap[b1]? = some (.cells cu1 t1 (0, 0))) (h2 : w.heap[b2]? = some (.cells cu2 t2 (0, 0))) (h0 : cu2.size ≠ 0) :
    (callFunc F #[.slice (some ⟨b1, o1, none⟩) l1 c1, .slice (some ⟨b2, o2, none⟩) l2 c2]).run P w = .ok (.value (.bool false)) w := by
  obtain ⟨q, g1, g2, g3, g4⟩ := hi.get
  rw [run_callFunc_extern hf hn hb hnx he, Lib.run_overlaps_apart w tS tR E' hT sz (fun w => by simp [sizeOf, typeInfo, g1, g3]) ⟨b1, o1, none⟩ ⟨b2, o2, none⟩ l1 c1 l2 c2 hne t1 t2 cu1.size cu2.size (by simp [World.shape?, h1]) (by simp [World.shape?, h2]) h0 (by simp [World.frozen?, h1]) (by simp [World.frozen?, h1])]
  rfl
end
open Go
section
variable {P : Program} {n : Nat} {f : Sl} {w : World} {dst : Option Tmp} {ty : TypeId} {pos : String} {af : Array Edge} {g : Option (Nat × Bool)}
theorem cvU {S D : Nat} {x : Operand} {a : Int} {k : IntKind} {ds : TypeDesc} (hS : P.underlying S = some ds) (hD : P.underlying D = some (.int .u64)) (hx : ev n f x = .int k a)
    (h1 : 0 ≤ a) (h2 : a ≤ 9223372036854775807) : St P n ⟨dst, .convert S D x, ty, pos, af, g⟩ f w (.int .u64 a) w := by
  unfold St execOp
  simp only [hx, convert, Sem.run_bind, run_underlying hS w, run_underlying hD w, Result.andThen_ok]
  have : IntKind.u64.wrap a = a := by
    simp [IntKind.wrap, IntKind.bits, IntKind.signed]
    omega
  cases ds <;> simp [Conv.intToInt, this]
theorem shrN {T T' m : Nat} {x y : Operand} {a : Int} {k' : IntKind} (hx : ev n f x = .int .u64 a) (hy : ev n f y = .int k' 1) (ha : a = (m : Int)) :
    St P n ⟨dst, .binOp .shr T x y T', ty, pos, af, g⟩ f w (.int .u64 ((m / 2 : Nat) : Int)) w := by
  subst ha
  unfold St execOp
  simp only [hx, hy]
  have h1 : (1 : Int).toNat = 1 := rfl
  have h2 : Int.fdiv (m : Int) 2 = ((m / 2 : Nat) : Int) := by
    rw [Int.fdiv_eq_ediv_of_nonneg _ (by decide)]; rfl
  have hE : (eqGuard .shr T x y (.int .u64 (m : Int)) (.int k' 1)).run P w = .ok () w := rfl
  simp [hE, binOp, Op.shift, IntKind.bits, h2]
end
def BsR {α : Type} (key : α → Int) (xs : List α) (k : Int) (i : Nat) (b : Bool) : Prop :=
  i ≤ xs.length ∧ (∀ x ∈ xs.take i, key x < k) ∧ (∀ h : i < xs.length, k ≤ key xs[i]) ∧ (b = true ↔ ∃ h : i < xs.length, key xs[i] = k)
section
variable {α : Type} {key : α → Int} {xs : List α} {k : Int} {i : Nat} {b : Bool}
theorem bs_mem (h : i < xs.length) : xs[i] ∈ xs.drop i := by
  rw [List.drop_eq_getElem_cons h]; exact List.mem_cons_self ..
theorem bs_lo (hs : xs.Pairwise (fun a b => key a < key b)) (hi : i < xs.length) (hk : key xs[i] < k) : ∀ x ∈ xs.take (i + 1), key x < k := by
  intro x hx
  obtain ⟨j, hj⟩ := List.getElem?_of_mem hx
  rw [List.getElem?_take] at hj
  split at hj
  · rename_i hlt
    have hj2 := (List.getElem?_eq_some_iff.1 hj)
    obtain ⟨hjl, rfl⟩ := hj2
    rcases Nat.lt_or_ge j i with h | h
    · have := List.pairwise_iff_getElem.1 hs j i hjl hi h; omega
    · obtain rfl : j = i := by omega
      exact hk
  · cases hj
theorem bs_hi (hs : xs.Pairwise (fun a b => key a < key b)) (hi : i < xs.length) (hk : k ≤ key xs[i]) : ∀ x ∈ xs.drop i, k ≤ key x := by
  intro x hx
  obtain ⟨j, hj⟩ := List.getElem?_of_mem hx
  rw [List.getElem?_drop] at hj
  obtain ⟨hjl, rfl⟩ := List.getElem?_eq_some_iff.1 hj
  rcases Nat.eq_zero_or_pos j with h | h
  · subst h; simpa using hk
  · have := List.pairwise_iff_getElem.1 hs i (i + j) hi hjl (by omega); omega
theorem BsR.take (h : BsR key xs k i b) : xs.takeWhile (fun x => decide (key x < k)) = xs.take i ∧ xs.dropWhile (fun x => decide (key x < k)) = xs.drop i :=
  tw_gen (fun x hx => decide_eq_true (h.2.1 x hx)) (fun hl => decide_eq_false (by have := h.2.2.1 hl; omega))
theorem BsR.no (hs : xs.Pairwise (fun a b => key a < key b)) (h : BsR key xs k i b) (hb : b = false) : ∀ x ∈ xs, key x ≠ k := by
  intro x hx
  rw [← List.take_append_drop i xs] at hx
  rcases List.mem_append.1 hx with hx | hx
  · have := h.2.1 x hx; omega
  · have hil : i < xs.length := by
      rcases Nat.lt_or_ge i xs.length with h1 | h1
      · exact h1
      · rw [List.drop_eq_nil_of_le h1] at hx; cases hx
    have h1 := h.2.2.1 hil
    have h2 : key xs[i] ≠ k := fun he => by have := h.2.2.2.2 ⟨hil, he⟩; rw [hb] at this; cases this
    have := bs_hi (k := k + 1) hs hil (by omega) x hx
    omega
end
end Go.Ro
