/- Operations that make memory or write it, in the memory of a walk. A struct that is put together by value. From the memory of a walk to the words of a row. Conditions: those that each row states. -/
import Derived.Test.YtmgggljicpmndaaGreatDoorQu
import Derived.Below
namespace Go.Ro
open Go
section
variable {P : Program} {n : Nat} {Q : Po} {f : Sl} {w : World} {ops : Array Oper} {rest : List Oper}
  {dst : Option Tmp} {d : Nat} {ty : TypeId} {pos : String} {af : Array Edge} {e : World} {G : View} {L : Own}
def one : Value → Bool
  | .agg _ => false
  | .tuple _ => false
  | _ => true
theorem run_new (w : World) (l : List Value) (t : TypeId) : (newRow t l.toArray).run P w = .ok ⟨w.heap.size, 0, none⟩ (w.alloc (row l t)) := by
  simp [newRow, row]
theorem al {T sz by' : Nat} {z : Value} {l : List Value} (hK : K e w G L) (hi : Inf P T z sz by') (hz : z.cells = l.toArray)
    (h : ∀ b w1, K e w1 G ((b, row l T) :: L) → WL P n ops Q rest (upd f d (.pointer (some ⟨b, 0, none⟩))) w1) :
    WL P n ops Q (⟨some d, .alloc T, ty, pos, af, none⟩ :: rest) f w := by
  obtain ⟨i, h1, h2, _, _⟩ := hi.get
  refine vl ?_ (h w.heap.size (w.alloc (row l T)) (hK.alloc _))
  unfold St execOp
  have : (zeroValue T).run P w = .ok z w := by simp [zeroValue, typeInfo, h1, h2]
  simp only [Instr.alloc, Sem.run_bind, this, Result.andThen_ok, newVar, hz, run_new]
  rfl
theorem bx {T : Nat} {x : Operand} {v : Value} {l : List Value} (hK : K e w G L) (hx : ev n f x = v) (hz : v.cells = l.toArray)
    (h : ∀ b w1, K e w1 G ((b, row l T) :: L) → WL P n ops Q rest (upd f d (.pointer (some ⟨b, 0, none⟩))) w1) :
    WL P n ops Q (⟨some d, .box T x, ty, pos, af, none⟩ :: rest) f w := by
  refine vl ?_ (h w.heap.size (w.alloc (row l T)) (hK.alloc _))
  unfold St execOp
  simp only [hx, Instr.box, newVar, Sem.run_bind, hz, run_new, Result.andThen_ok]
  rfl
theorem bx1 {T : Nat} {x : Operand} {v : Value} (hK : K e w G L) (hx : ev n f x = v) (h1 : one v = true)
    (h : ∀ b w1, K e w1 G ((b, row [v] T) :: L) → WL P n ops Q rest (upd f d (.pointer (some ⟨b, 0, none⟩))) w1) :
    WL P n ops Q (⟨some d, .box T x, ty, pos, af, none⟩ :: rest) f w :=
  bx (l := [v]) hK hx (by cases v <;> first | rfl | (simp [one] at h1)) h
theorem K.store {b t o : Nat} {l : List Value} (hK : K e w G ((b, row l t) :: L)) (v : Value) : K e (w.setCell ⟨b, o, none⟩ v) G ((b, row (l.set o v) t) :: L) := by
  have hb : w.heap[b]? = some (row l t) := hK.own _ _ (List.mem_cons_self ..)
  refine hK.write rfl rfl rfl ?_ ?_
  ·
    simp only [World.setCell]
    rw [Array.getElem?_modify, if_pos rfl, hb]
    simp [row]
  · intro k hk x hx
    simp only [World.setCell]
    rw [Array.getElem?_modify, if_neg (by omega)]
    exact hx
theorem erase_perm {α : Type} : ∀ {L : List α} {k : Nat} {x : α}, L[k]? = some x → L.Perm (x :: L.eraseIdx k)
  | [], _, _, h => by simp at h
  | a :: L, 0, x, h => by simp at h; subst h; simp
  | a :: L, k + 1, x, h => by
    have ih := erase_perm (L := L) (k := k) (x := x) (by simpa using h)
    simp only [List.eraseIdx_cons_succ]
    exact (List.Perm.cons a ih).trans (List.Perm.swap x a _)
theorem set_perm {α : Type} : ∀ {L : List α} {k : Nat} {x y : α}, L[k]? = some x → (L.set k y).Perm (y :: L.eraseIdx k)
  | [], _, _, _, h => by simp at h
  | a :: L, 0, x, y, h => by simp
  | a :: L, k + 1, x, y, h => by
    have ih := set_perm (L := L) (k := k) (x := x) (y := y) (by simpa using h)
    simp only [List.eraseIdx_cons_succ, List.set_cons_succ]
    exact (List.Perm.cons a ih).trans (List.Perm.swap y a _)
theorem K.nth (hK : K e w G L) {k : Nat} {x : Nat × Obj} (hn : L[k]? = some x) : K e w G (x :: L.eraseIdx k) := by
  exact hK.perm (erase_perm hn).symm
theorem so {T b o t : Nat} {x y : Operand} {l : List Value} {v : Value} {sz by' : Nat} {z : Value} (hK : K e w G L) (hi : Inf P T z sz by') (hs : Nat.beq sz 1 = true) (k : Nat) (hn : L[k]? = some (b, row l t))
    (hp : ev n f x = .pointer (some ⟨b, o, none⟩)) (hv : ev n f y = v) (h1 : one v = true) (ho' : Nat.blt o l.length = true)
    (h : ∀ w1, K e w1 G (L.set k (b, row (l.set o v) t)) → WL P n ops Q rest (updO f dst undef) w1) :
    WL P n ops Q (⟨dst, .store T x y, ty, pos, af, none⟩ :: rest) f w := by
  obtain ⟨i, g1, _, g3, _⟩ := hi.get
  have ho : o < l.length := Nat.le_of_ble_eq_true ho'
  have hK1 := hK.nth hn
  have hb : w.heap[b]? = some (row l t) := hK1.own _ _ (List.mem_cons_self ..)
  refine skp rfl ?_ (h (w.setCell ⟨b, o, none⟩ v) ((hK1.store v).perm (set_perm hn)))
  have hs' : sz = 1 := Nat.eq_of_beq_eq_true hs
  have hc : w.cell? ⟨b, o, none⟩ = some l[o] := by rw [row_cell hb]; simp [ho]
  have hfz : w.frozen? ⟨b, o, none⟩ = false := row_frozen (a := ⟨b, o, none⟩) hb
  have hcs : v.cells = #[v] := by cases v <;> first | rfl | (simp [one] at h1)
  have hst : (Sem.store .plain ⟨b, o, none⟩ v (.pure ())).run P w = .ok () (w.setCell ⟨b, o, none⟩ v) := by
    cases v <;> first | (simp [one] at h1; done) | simp [Sem.run, hc, hfz]
  unfold execOp
  simp only [hp, hv, Instr.storeAt, Instr.sureAddr, Sem.run_bind, Sem.run_pure, Result.andThen_ok, storeVar, hcs, sizeOf, typeInfo, run_program, g1, g3, hs']
  simp only [List.size_toArray, List.length_cons, List.length_nil, Nat.zero_add, ne_eq, not_true_eq_false, if_false, storeCells, Sem.run_bind, store]
  have hadd : (⟨b, o, none⟩ : Addr).add 0 = ⟨b, o, none⟩ := rfl
  rw [hadd, hst]
  simp
theorem storeCells_row {b t : Nat} : ∀ (vs : List Value) (l : List Value) (o i : Nat) (w : World) (L : Own), K e w G ((b, row l t) :: L) → (∀ v ∈ vs, one v = true) → o + i + vs.length ≤ l.length →
    ∃ w', (storeCells ⟨b, o, none⟩ vs i).run P w = .ok () w' ∧ K e w' G ((b, row (l.take (o + i) ++ vs ++ l.drop (o + i + vs.length)) t) :: L)
  | [], l, o, i, w, L, hK, _, _ => ⟨w, by simp [storeCells], by simpa using hK⟩
  | v :: vs, l, o, i, w, L, hK, h1, hl => by
    have hb : w.heap[b]? = some (row l t) := hK.own _ _ (List.mem_cons_self ..)
    simp only [List.length_cons] at hl
    have hc : w.cell? ⟨b, o + i, none⟩ = some l[o + i] := by rw [row_cell hb]; simp [show o + i < l.length by omega]
    have hfz : w.frozen? ⟨b, o + i, none⟩ = false := row_frozen (a := ⟨b, o + i, none⟩) hb
    have hv1 : one v = true := h1 v (List.mem_cons_self ..)
    have hst : (Sem.store .plain ⟨b, o + i, none⟩ v (.pure ())).run P w = .ok () (w.setCell ⟨b, o + i, none⟩ v) := by
      cases v <;> first | (simp [one] at hv1; done) | simp [Sem.run, hc, hfz]
    obtain ⟨w', hr, hK'⟩ := storeCells_row vs (l.set (o + i) v) o (i + 1) _ L (hK.store (o := o + i) v) (fun x hx => h1 x (List.mem_cons_of_mem _ hx)) (by rw [List.length_set]; omega)
    refine ⟨w', ?_, ?_⟩
    · have hadd : (⟨b, o, none⟩ : Addr).add i = ⟨b, o + i, none⟩ := by
        unfold Addr.add
        split
        · rename_i h; rw [h]; rfl
        · rfl
      simp only [storeCells, store, Sem.run_bind, hadd, hst, Result.andThen_ok, hr]
    · have : (l.set (o + i) v).take (o + (i + 1)) ++ vs ++ (l.set (o + i) v).drop (o + (i + 1) + vs.length) = l.take (o + i) ++ (v :: vs) ++ l.drop (o + i + (v :: vs).length) := by
        rw [show o + (i + 1) = o + i + 1 by omega, List.take_succ_eq_append_getElem (by rw [List.length_set]; omega), List.getElem_set_self, List.take_set_of_le (Nat.le_refl _), List.drop_set_of_lt (by omega)]
        simp only [List.append_assoc, List.length_cons, List.cons_append, List.nil_append]
        rw [show o + i + 1 + vs.length = o + i + (vs.length + 1) by omega]
      rw [← this]; exact hK'
theorem soS {T b o t : Nat} {x y : Operand} {l vs : List Value} {sz by' : Nat} {z : Value} (hK : K e w G L) (hi : Inf P T z sz by') (k : Nat) (hn : L[k]? = some (b, row l t))
    (hp : ev n f x = .pointer (some ⟨b, o, none⟩)) (hv : ev n f y = .agg vs.toArray) (hl : vs.length = sz) (h1' : vs.all one = true) (ho' : Nat.ble (o + vs.length) l.length = true)
    (h : ∀ w1, K e w1 G (L.set k (b, row (l.take o ++ vs ++ l.drop (o + vs.length)) t)) → WL P n ops Q rest (updO f dst undef) w1) :
    WL P n ops Q (⟨dst, .store T x y, ty, pos, af, none⟩ :: rest) f w := by
  obtain ⟨i, g1, _, g3, _⟩ := hi.get
  have h1 : ∀ v ∈ vs, one v = true := List.all_eq_true.1 h1'
  have ho : o + vs.length ≤ l.length := Nat.le_of_ble_eq_true ho'
  obtain ⟨w', hr, hK'⟩ := storeCells_row (P := P) vs l o 0 w _ (hK.nth hn) h1 (by omega)
  simp only [Nat.add_zero] at hK'
  refine skp rfl ?_ (h w' (hK'.perm (set_perm hn)))
  unfold execOp
  simp only [hp, hv, Instr.storeAt, Instr.sureAddr, Sem.run_bind, Sem.run_pure, Result.andThen_ok, storeVar, sizeOf, typeInfo, run_program, g1, g3, Value.cells]
  simp only [List.size_toArray, hl, ne_eq, not_true_eq_false, if_false, hr]
  simp
theorem bs0 {T E' sz by' : Nat} {z : Value} (hK : K e w G L) (hT : P.underlying T = some (.slice E')) (hi : Inf P E' z sz by')
    (h : ∀ b w1, K e w1 G ((b, row [] E') :: L) → WL P n ops Q rest (upd f d (.slice (some ⟨b, 0, none⟩) 0 0)) w1) :
    WL P n ops Q (⟨some d, .buildSlice T 0 #[], ty, pos, af, none⟩ :: rest) f w := by
  obtain ⟨i, h1, h2, h3, _⟩ := hi.get
  refine vl ?_ (h w.heap.size (w.alloc (row [] E')) (hK.alloc _))
  unfold St execOp
  simp [Instr.buildSlice, run_underlying hT, sizeOf, typeInfo, h1, Instr.fill, newRow, row]
  have h0 : ∀ q : Nat → Value, (Array.range 0).map q = #[] := fun q => Array.eq_empty_of_size_eq_zero (by simp)
  rw [h0]
def idx {α : Type} : Nat → List α → List (Nat × α)
  | _, [] => []
  | k, x :: xs => (k, x) :: idx (k + 1) xs
theorem idx_map {α β : Type} (f : α → β) : ∀ (k : Nat) (xs : List α), (idx k xs).map (fun p => (p.1, f p.2)) = idx k (xs.map f)
  | _, [] => rfl
  | k, x :: xs => by simp [idx, idx_map f (k + 1) xs]
theorem fill_one : ∀ (vs : List Value) (k : Nat) (pre post : List Value), (∀ v ∈ vs, one v = true) → post.length = vs.length → pre.length = k →
    Instr.fill (fun i => some (i * 1, 1)) (pre ++ post).toArray (idx k vs) = some (pre ++ vs).toArray
  | [], k, pre, post, _, hl, _ => by
    have : post = [] := List.eq_nil_of_length_eq_zero (by simpa using hl)
    subst this; simp [idx, Instr.fill]
  | v :: vs, k, pre, [], _, hl, _ => by simp at hl
  | v :: vs, k, pre, p :: post, h1, hl, hk => by
    have hv : one v = true := h1 v (List.mem_cons_self ..)
    have hc : v.cells = #[v] := by cases v <;> first | rfl | (simp [one] at hv)
    have ih := fill_one vs (k + 1) (pre ++ [v]) post (fun x hx => h1 x (List.mem_cons_of_mem _ hx)) (by simpa using hl) (by simp [hk])
    simp only [idx, Instr.fill, hc, Nat.mul_one]
    simp only [List.size_toArray, List.length_cons, List.length_nil, Nat.zero_add, ne_eq, not_true_eq_false, decide_false, Bool.false_or, decide_eq_true_eq]
    rw [if_neg (by simp [← hk])]
    have hs : (#[v] : Array Value).zipIdx.foldl (fun cs (x : Value × Nat) => cs.setIfInBounds (k + x.2) x.1) (pre ++ p :: post).toArray = (pre ++ [v] ++ post).toArray := by
      simp [← hk]
    have hs' : (#[v] : Array Value).zipIdx.foldl (fun cs x => match x with | (c, j) => cs.setIfInBounds (k + j) c) (pre ++ p :: post).toArray = (pre ++ [v] ++ post).toArray := hs
    rw [hs']
    simp only [Nat.mul_one] at ih
    rw [ih]; simp
theorem bsN {T E' m sz by' : Nat} {z : Value} {ps : List (Nat × Operand)} (xs : List Operand) {vs : List Value} (hK : K e w G L) (hT : P.underlying T = some (.slice E')) (hi : Inf P E' z sz by') (hs : Nat.beq sz 1 = true)
    (hz : one z = true) (hps : ps = idx 0 xs) (hvs : xs.map (ev n f) = vs) (h1' : vs.all one = true) (hm : xs.length = m) (hm1 : Nat.ble 1 m = true) (hm2 : Nat.ble m 1000 = true)
    (h : ∀ b w1, K e w1 G ((b, row vs E') :: L) → WL P n ops Q rest (upd f d (.slice (some ⟨b, 0, none⟩) m m)) w1) :
    WL P n ops Q (⟨some d, .buildSlice T m ps.toArray, ty, pos, af, none⟩ :: rest) f w := by
  obtain ⟨i, g1, g2, g3, _⟩ := hi.get
  refine vl ?_ (h w.heap.size (w.alloc (row vs E')) (hK.alloc _))
  have h1 : ∀ v ∈ vs, one v = true := List.all_eq_true.1 h1'
  have hs' : sz = 1 := Nat.eq_of_beq_eq_true hs
  have hm1' : 1 ≤ m := Nat.le_of_ble_eq_true hm1
  have hm2' : m ≤ 1000 := Nat.le_of_ble_eq_true hm2
  have hzc : z.cells = #[z] := by cases z <;> first | rfl | (simp [one] at hz)
  have hfill := fill_one vs 0 [] (List.replicate m z) h1 (by rw [List.length_replicate, ← hvs, List.length_map, hm]) rfl
  have hmap : (ps.toArray.map fun x : Nat × Operand => (x.1, ev n f x.2)).toList = idx 0 vs := by
    rw [List.map_toArray, hps, idx_map, hvs]
  have hrange : ((Array.range (m * 1)).map fun i : Nat => (#[z] : Array Value)[i % 1]!) = ([] ++ List.replicate m z).toArray := by
    apply Array.ext
    · simp
    · intro j h1 h2
      simp [Nat.mod_one]
  unfold St execOp
  have hmap' : (ps.toArray.map fun x => match x with | (i, x) => (i, ev n f x)).toList = idx 0 vs := hmap
  simp only [Instr.buildSlice, Sem.run_bind, run_underlying hT, Result.andThen_ok, sizeOf, typeInfo, run_program, g1, Sem.run_pure, g3, hs', zeroValue, hmap']
  have hle : ¬ m * 1 > 2 ^ 24 := by omega
  have hne : ¬ m * 1 = 0 := by omega
  simp only [hle, hne, if_false, Sem.run_bind, Sem.run_pure, Result.andThen_ok, run_program, g1, g2, hzc, List.size_toArray, List.length_cons, List.length_nil, Nat.zero_add, hrange, List.nil_append]
  have hf' : Instr.fill (fun i => some (i, 1)) (Array.replicate m z) (idx 0 vs) = some vs.toArray := by
    have := hfill
    simp only [Nat.mul_one, List.nil_append] at this
    rw [← this]; simp
  simp [hf', run_new]
end
open Go
def plc (P : Program) (T : TypeId) : Option (List (Nat × Nat)) :=
  match P.underlying T with
  | some (.struct fs) => fs.toList.mapM fun f => (P.info? f.type).map fun i => (f.offset, i.size)
  | _ => none
theorem run_plc {P : Program} (w : World) : ∀ (fs : List Field) (pl : List (Nat × Nat)), fs.mapM (fun f => (P.info? f.type).map fun i => (f.offset, i.size)) = some pl →
    (fs.mapM (fun f => do pure (f.offset, ← sizeOf f.type) : Field → Sem (Nat × Nat))).run P w = .ok pl w
  | [], pl, h => by simp at h; subst h; simp
  | f :: fs, pl, h => by
    rw [List.mapM_cons] at h
    cases hi : P.info? f.type with
    | none => simp [hi] at h
    | some i =>
      cases hr : fs.mapM (fun f => (P.info? f.type).map fun i => (f.offset, i.size)) with
      | none => simp [hi, hr] at h
      | some pl' =>
        have ih := run_plc w fs pl' hr
        simp [hi, hr] at h
        subst h
        rw [List.mapM_cons]
        simp only [Sem.run_bind, sizeOf, typeInfo, run_program, hi, Sem.run_pure, Result.andThen_ok] at ih ⊢
        rw [ih]; rfl
def fillP (pl : List (Nat × Nat)) : List Value → List (Nat × List Value) → Option (List Value)
  | l, [] => some l
  | l, (i, cs) :: r =>
    match pl[i]? with
    | some (off, sz) => cond (Nat.beq cs.length sz && Nat.ble (off + cs.length) l.length) (fillP pl (l.take off ++ cs ++ l.drop (off + cs.length)) r) none
    | none => none
def Parts (ρ : Operand → Value) : List (Nat × Operand) → List (Nat × List Value) → Prop
  | [], [] => True
  | (i, x) :: xs, (j, cs) :: vs => (i = j ∧ (ρ x).cells = cs.toArray) ∧ Parts ρ xs vs
  | _, _ => False
theorem one_cells {v : Value} (h : one v = true) : v.cells = [v].toArray := by cases v <;> first | rfl | (simp [one] at h)
theorem splice_fold : ∀ (cs l : List Value) (off k : Nat), off + k + cs.length ≤ l.length →
    (cs.zipIdx k).foldl (fun (a : Array Value) (x : Value × Nat) => a.setIfInBounds (off + x.2) x.1) l.toArray = (l.take (off + k) ++ cs ++ l.drop (off + k + cs.length)).toArray
  | [], l, off, k, _ => by simp
  | c :: cs, l, off, k, h => by
    simp only [List.length_cons] at h
    rw [List.zipIdx_cons, List.foldl_cons]
    have hs : l.toArray.setIfInBounds (off + k) c = (l.set (off + k) c).toArray := by simp
    simp only [hs]
    rw [splice_fold cs (l.set (off + k) c) off (k + 1) (by rw [List.length_set]; omega)]
    congr 1
    rw [show off + (k + 1) = off + k + 1 by omega, List.take_succ_eq_append_getElem (by rw [List.length_set]; omega), List.getElem_set_self, List.take_set_of_le (Nat.le_refl _), List.drop_set_of_lt (by omega)]
    simp only [List.append_assoc, List.length_cons, List.cons_append, List.nil_append]
    rw [show off + k + 1 + cs.length = off + k + (cs.length + 1) by omega]
theorem fill_eq {ρ : Operand → Value} {pl : List (Nat × Nat)} : ∀ (xs : List (Nat × Operand)) (vs : List (Nat × List Value)) (l cells : List Value), Parts ρ xs vs → fillP pl l vs = some cells →
    Instr.fill (pl.toArray[·]?) l.toArray (xs.map fun p => (p.1, ρ p.2)) = some cells.toArray
  | [], [], l, cells, _, h => by simp [fillP] at h; subst h; rfl
  | [], _ :: _, _, _, h, _ => h.elim
  | _ :: _, [], _, _, h, _ => h.elim
  | (i, x) :: xs, (j, cs) :: vs, l, cells, ⟨⟨hij, hc⟩, hp⟩, h => by
    subst hij
    unfold fillP at h
    simp only [List.map_cons, Instr.fill, hc]
    have hg : pl.toArray[i]? = pl[i]? := by simp
    rw [hg]
    cases hpl : pl[i]? with
    | none => rw [hpl] at h; cases h
    | some q =>
      obtain ⟨off, sz⟩ := q
      rw [hpl] at h
      simp only at h ⊢
      cases hb : (Nat.beq cs.length sz && Nat.ble (off + cs.length) l.length) with
      | false => rw [hb] at h; cases h
      | true =>
        rw [hb] at h
        simp only [Bool.and_eq_true] at hb
        have h1 : cs.length = sz := Nat.eq_of_beq_eq_true hb.1
        have h2 : off + cs.length ≤ l.length := Nat.le_of_ble_eq_true hb.2
        rw [if_neg (by simp; omega)]
        have hsp := splice_fold cs l off 0 (by omega)
        simp only [Nat.add_zero] at hsp
        have hz : cs.toArray.zipIdx = (cs.zipIdx 0).toArray := by simp
        have hf : cs.toArray.zipIdx.foldl (fun cs x => match x with | (c, j) => cs.setIfInBounds (off + j) c) l.toArray = (l.take off ++ cs ++ l.drop (off + cs.length)).toArray := by
          rw [hz, ← hsp, List.foldl_toArray]
        rw [hf]
        exact fill_eq xs vs _ cells hp h
section
variable {P : Program} {n : Nat} {f : Sl} {w : World} {dst : Option Tmp} {ty : TypeId} {pos : String} {af : Array Edge} {g : Option (Nat × Bool)}
theorem bd {T sz by' : Nat} {z : Value} {zl : List Value} {pl : List (Nat × Nat)} {xs : List (Nat × Operand)} (vs : List (Nat × List Value)) {cells : List Value} (hp : plc P T = some pl) (hi : Inf P T z sz by')
    (hz : z.cells = zl.toArray) (hvs : Parts (ev n f) xs vs) (hl : fillP pl zl vs = some cells) :
    St P n ⟨dst, .build T xs.toArray, ty, pos, af, g⟩ f w (.agg cells.toArray) w := by
  obtain ⟨i, g1, g2, _, _⟩ := hi.get
  unfold plc at hp
  cases hu : P.underlying T with
  | none => rw [hu] at hp; cases hp
  | some d =>
    rw [hu] at hp
    cases d with
    | struct fs =>
      simp only at hp
      have hm : (fs.mapM (fun f => do pure (f.offset, ← sizeOf f.type) : Field → Sem (Nat × Nat))).run P w = .ok pl.toArray w := by
        have := run_plc (P := P) w fs.toList pl hp
        rw [Array.mapM_eq_mapM_toList]
        have hb : ∀ m : Sem (List (Nat × Nat)), (List.toArray <$> m : Sem (Array (Nat × Nat))) = (m >>= fun x => pure x.toArray) := fun _ => rfl
        rw [hb, Sem.run_bind, this]; rfl
      unfold St execOp
      have hf := fill_eq (ρ := ev n f) xs vs zl cells hvs hl
      have hmap : (xs.toArray.map fun x => match x with | (i, x) => (i, ev n f x)).toList = xs.map fun p => (p.1, ev n f p.2) := by simp
      have hzv : (zeroValue T).run P w = .ok z w := by simp [zeroValue, typeInfo, g1, g2]
      simp only [Instr.build, Sem.run_bind, hzv, Result.andThen_ok, run_underlying hu w, hm, hz, hmap, hf]
      simp
    | _ => simp at hp
end
open Go Go.RowKit
def hvw (w : World) : View := fun b => w.heap[b]?
theorem K.start (w : World) : K w w (hvw w) [] :=
  ⟨rfl, rfl, rfl, fun _ _ h => h, fun _ _ h => by simp at h, fun _ _ h => by simp at h, List.nodup_nil⟩
theorem K.below {w w' : World} {G : View} {L : Own} (h : K w w' G L) (hG : VLe (hvw w) G) : Below w.heap.size w w' := by
  have hb : ∀ k o, w.heap[k]? = some o → w'.heap[k]? = some o := fun k o hk => h.view k o (hG k o hk)
  refine ⟨h.os, h.tape, h.out, ?_, ?_⟩
  · rcases Nat.lt_or_ge w'.heap.size w.heap.size with hlt | hge
    · have := hb w'.heap.size _ (Array.getElem?_eq_getElem hlt)
      simp at this
    · exact hge
  · intro k hk
    rw [hb k _ (Array.getElem?_eq_getElem hk), Array.getElem?_eq_getElem hk]
theorem Calls.ofRet {P : Program} {F : FuncId} {args : Array Value} {w : World} (h : Ret P F args w (fun r w' => r = .bool true ∧ ∃ G L, K w w' G L ∧ VLe (hvw w) G)) :
    Calls P F args w fun e w' => e = .returned (.bool true) ∧ Below w.heap.size w w' :=
  Calls.mono h fun _ _ ⟨_, he, hr, _, _, hK, hG⟩ => ⟨hr ▸ he, hK.below hG⟩
theorem cell_row {w : World} {x : Addr} {k : IntKind} {len cap : Nat} {zs : List Int} (hl : len ≤ cap) (hm : cap ≤ maxLen) (hz : zs.length = cap)
    (hc : ∀ i, i < zs.length → w.cell? (x.add i) = some (.int k (zs.getD i 0))) :
    SlR 1 (fun _ cs n => cs = [.int k n]) (hvw w) (.slice (some x) len cap) (zs.take len) := by
  have hlen : (zs.take len).length = len := by rw [List.length_take]; omega
  have hs : 0 < len → x = ⟨x.block, x.off, none⟩ := by
    intro h0
    have h1 := hc 0 (by omega)
    have : x.add 0 = x := rfl
    rw [this] at h1
    unfold World.cell? at h1
    cases hsp : x.spot with
    | none => cases x; simp only at hsp; subst hsp; rfl
    | some s =>
      cases hh : w.heap[x.block]? with
      | none => rw [hh] at h1; cases h1
      | some o => rw [hh] at h1; cases o <;> simp [hsp] at h1
  refine ⟨⟨some x, cap, by rw [hlen], by omega, hm, ?_⟩, ?_⟩
  · rcases Nat.eq_zero_or_pos len with h | h
    · left; omega
    · right; exact ⟨x.block, x.off, by rw [← hs h]⟩
  · intro i n hi
    have hlt : i < len := by
      have := (List.getElem?_eq_some_iff.1 hi).1
      omega
    have hx := hs (by omega)
    refine ⟨[.int k n], rfl, ?_, rfl⟩
    intro j c hj
    have hj0 : j = 0 := by
      have := (List.getElem?_eq_some_iff.1 hj).1
      simp at this; exact this
    subst hj0
    simp at hj; subst hj
    have h1 := hc i (by omega)
    have hadd : x.add i = elA (.slice (some x) len cap) (i * 1 + 0) := by
      unfold Addr.add elA
      split
      · rename_i h0; subst h0; simp only [Nat.zero_mul, Nat.add_zero]; exact hx
      · rw [Nat.mul_one, Nat.add_zero]
    rw [hadd] at h1
    have hn : zs.getD i 0 = n := by
      rw [List.getElem?_take, if_pos hlt] at hi
      simp [List.getD, hi]
    rw [hn] at h1
    exact h1
theorem nil_row {α : Type} {E : View → List Value → α → Prop} {sz : Nat} {G : View} : SlR sz E G (.slice none 0 0) [] :=
  ⟨⟨none, 0, rfl, Nat.le_refl _, Nat.zero_le _, .inl rfl⟩, fun i x h => by simp at h⟩
end Go.Ro
