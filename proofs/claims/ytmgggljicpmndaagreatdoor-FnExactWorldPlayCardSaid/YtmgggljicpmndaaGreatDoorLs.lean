/- Results that lie in variables; structs in slices; minimum, maximum; comparisons with nil. Conditions: those that each row states. -/
import Derived.Test.YtmgggljicpmndaaGreatDoorSnM
namespace Go.Ro
open Go
/-! results -/
def RV (P : Program) (n : Nat) (f : Sl) (w : World) : ResultVar → Value → Prop
  | .tmp t, v => ev n f (.tmp t) = v
  | .cell a T, v => ∃ x, ev n f (.tmp a) = .pointer (some x) ∧ (loadVar T x).run P w = .ok v w
def PG1 (P : Program) (n : Nat) (r : ResultVar) (R : Value → World → Prop) : Po
  | .normal, f, w => ∃ v, RV P n f w r v ∧ R v w
  | .ret, f, w => ∃ v, RV P n f w r v ∧ R v w
  | _, _, _ => False
def PG2 (P : Program) (n : Nat) (r s : ResultVar) (R : Value → World → Prop) : Po
  | .normal, f, w => ∃ v u, RV P n f w r v ∧ RV P n f w s u ∧ R (.tuple #[v, u]) w
  | .ret, f, w => ∃ v u, RV P n f w r v ∧ RV P n f w s u ∧ R (.tuple #[v, u]) w
  | _, _, _ => False
def PG3 (P : Program) (n : Nat) (r s t : ResultVar) (R : Value → World → Prop) : Po
  | .normal, f, w => ∃ v u x, RV P n f w r v ∧ RV P n f w s u ∧ RV P n f w t x ∧ R (.tuple #[v, u, x]) w
  | .ret, f, w => ∃ v u x, RV P n f w r v ∧ RV P n f w s u ∧ RV P n f w t x ∧ R (.tuple #[v, u, x]) w
  | _, _, _ => False
section
variable {P : Program} {n : Nat} {f : Sl} {w e : World} {G : View} {L : Own} {R : Value → World → Prop} {r s t : ResultVar}
theorem rvT {t : Nat} {v : Value} (h : ev n f (.tmp t) = v) : RV P n f w (.tmp t) v := h
theorem rvS {a T sz b t : Nat} {cs : List Value} (hK : K e w G L) (h1 : AggC P T) (hs : (P.info? T).map (·.size) = some sz) (k : Nat) (hn : L[k]? = some (b, row cs t))
    (hp : ev n f (.tmp a) = .pointer (some ⟨b, 0, none⟩)) (hl : cs.length = sz) : RV P n f w (.cell a T) (.agg cs.toArray) := by
  refine ⟨_, hp, ?_⟩
  have := run_load_agg (P := P) (w := w) h1 hs (b := b) (o := 0) hl (fun j c hj => by rw [Nat.zero_add, row_cell (hK.own _ _ (List.mem_of_getElem? hn))]; exact hj)
  simpa [Instr.loadAt, Instr.sureAddr] using this
theorem pg1r {v : Value} (h1 : RV P n f w r v) (h : R v w) : PG1 P n r R .ret f w := ⟨v, h1, h⟩
theorem pg2r {v u : Value} (h1 : RV P n f w r v) (h2 : RV P n f w s u) (h : R (.tuple #[v, u]) w) : PG2 P n r s R .ret f w := ⟨v, u, h1, h2, h⟩
def rvm (tmps : Array Value) : ResultVar → Sem Value
  | .tmp t => pure (tmps.getD t undef)
  | .cell a t => do loadVar t (← asAddr (tmps.getD a undef))
theorem rv_run {r : ResultVar} {v : Value} (h : RV P n f w r v) : (rvm (mkA n f).tmps r).run P w = .ok v w := by
  cases r with
  | tmp t => simp only [RV] at h; rw [← mkA_eval] at h; simp only [Act.eval] at h; simp [rvm, h]
  | cell a T =>
    obtain ⟨x, h1, h2⟩ := h
    rw [← mkA_eval] at h1
    simp only [Act.eval] at h1
    simp [rvm, h1, asAddr, h2]
def RVs (P : Program) (n : Nat) (f : Sl) (w : World) : List ResultVar → List Value → Prop
  | [], [] => True
  | r :: rs, v :: vs => RV P n f w r v ∧ RVs P n f w rs vs
  | _, _ => False
theorem rv_all : ∀ (rs : List ResultVar) (vs : List Value), RVs P n f w rs vs → (rs.mapM (rvm (mkA n f).tmps)).run P w = .ok vs w
  | [], [], _ => by simp
  | [], _ :: _, h => h.elim
  | _ :: _, [], h => h.elim
  | r :: rs, v :: vs, ⟨h, hs⟩ => by
    rw [List.mapM_cons]
    simp only [Sem.run_bind, rv_run h, Result.andThen_ok, rv_all rs vs hs]; rfl
theorem rv_results {fn : Func} {rs : List ResultVar} {vs : List Value} (hr : fn.results = rs.toArray) (h : RVs P n f w rs vs) :
    (results fn (mkA n f).tmps).run P w = .ok (if h : vs.toArray.size = 1 then vs.toArray[0] else .tuple vs.toArray) w := by
  have h1 := rv_all rs vs h
  unfold results
  show Sem.run P ((fn.results.mapM (rvm (mkA n f).tmps)) >>= fun vs => pure (if h : vs.size = 1 then vs[0] else .tuple vs)) w = _
  rw [hr, Array.mapM_eq_mapM_toList]
  have hb : ∀ m : Sem (List Value), (List.toArray <$> m : Sem (Array Value)) = (m >>= fun x => pure x.toArray) := fun _ => rfl
  rw [hb]
  simp only [Sem.run_bind, h1, Result.andThen_ok, Sem.run_pure]
theorem enterG1 {F : FuncId} {fn : Func} {c : Code} {args : List Value}
    (hf : P.funcs[F]? = some fn) (hb : fn.body = some c) (hn : fn.ntmps = n) (hr : fn.results = #[r]) (hl : Nat.ble args.length n = true)
    (h : W P n c (PG1 P n r R) (ini args) w) : Ret P F args.toArray w R := by
  refine enterQ _ hf hb hn hl ?_ h
  intro e f w q
  have key : ∀ v, RV P n f w r v → (results fn (mkA n f).tmps).run P w = .ok v w := by
    intro v hv
    exact rv_results (rs := [r]) (vs := [v]) hr ⟨hv, trivial⟩
  cases e with
  | normal => obtain ⟨v, h1, h2⟩ := q; exact ⟨.inl rfl, v, key v h1, h2⟩
  | ret => obtain ⟨v, h1, h2⟩ := q; exact ⟨.inr rfl, v, key v h1, h2⟩
  | _ => exact q.elim
theorem enterG2 {F : FuncId} {fn : Func} {c : Code} {args : List Value}
    (hf : P.funcs[F]? = some fn) (hb : fn.body = some c) (hn : fn.ntmps = n) (hr : fn.results = #[r, s]) (hl : Nat.ble args.length n = true)
    (h : W P n c (PG2 P n r s R) (ini args) w) : Ret P F args.toArray w R := by
  refine enterQ _ hf hb hn hl ?_ h
  intro e f w q
  have key : ∀ v u, RV P n f w r v → RV P n f w s u → (results fn (mkA n f).tmps).run P w = .ok (.tuple #[v, u]) w := by
    intro v u hv hu
    exact rv_results (rs := [r, s]) (vs := [v, u]) hr ⟨hv, hu, trivial⟩
  cases e with
  | normal => obtain ⟨v, u, h1, h2, h3⟩ := q; exact ⟨.inl rfl, _, key v u h1 h2, h3⟩
  | ret => obtain ⟨v, u, h1, h2, h3⟩ := q; exact ⟨.inr rfl, _, key v u h1 h2, h3⟩
  | _ => exact q.elim
end
/-! slices of structs without pointers -/
def EF {α : Type} (c : α → List Value) (_ : View) (cs : List Value) (x : α) : Prop := cs = c x
section
variable {α : Type} {sz : Nat} {c : α → List Value} {G G' : View} {v : Value} {xs : List α}
theorem EF.mono (h : SlR sz (EF c) G v xs) (hG : VLe G G') : SlR sz (EF c) G' v xs := SlR.mono (G := G) (G' := G') (E := EF c) (fun _ _ h => h) h hG
theorem SlR.cell (h : SlR sz (EF c) G v xs) {i : Nat} (hi : i < xs.length) (j : Nat) {u : Value} (hj : (c xs[i])[j]? = some u) : cellV G (elA v (i * sz + j)) = some u := by
  obtain ⟨cs, _, h2, h3⟩ := h.get hi
  have h3' : cs = c xs[i] := h3
  exact h2 j u (by rw [h3']; exact hj)
theorem flat_get' (hc : ∀ x, (c x).length = sz) : ∀ (xs : List α) (i j : Nat) (x : α), xs[i]? = some x → j < sz → (xs.flatMap c)[i * sz + j]? = (c x)[j]?
  | [], i, j, x, h, _ => by simp at h
  | y :: xs, 0, j, x, h, hj => by
    simp at h; subst h
    rw [List.flatMap_cons, Nat.zero_mul, Nat.zero_add, List.getElem?_append_left (by rw [hc]; exact hj)]
  | y :: xs, i + 1, j, x, h, hj => by
    rw [List.flatMap_cons, List.getElem?_append_right (by rw [hc, Nat.succ_mul]; omega), hc, show (i + 1) * sz + j - sz = i * sz + j by rw [Nat.succ_mul]; omega]
    exact flat_get' hc xs i j x (by simpa using h) hj
theorem flat_len (hc : ∀ x, (c x).length = sz) (xs : List α) : (xs.flatMap c).length = xs.length * sz := by
  induction xs with
  | nil => simp
  | cons x xs ih => rw [List.flatMap_cons, List.length_append, hc, ih, List.length_cons, Nat.succ_mul]; omega
theorem flat_set (hc : ∀ x, (c x).length = sz) : ∀ (xs : List α) (i j : Nat) (x y : α) (u : Value), xs[i]? = some x → j < sz → c y = (c x).set j u → (xs.flatMap c).set (i * sz + j) u = (xs.set i y).flatMap c
  | [], i, j, x, y, u, h, _, _ => by simp at h
  | z :: xs, 0, j, x, y, u, h, hj, hy => by
    simp at h; subst h
    rw [List.flatMap_cons, Nat.zero_mul, Nat.zero_add, List.set_append_left _ _ (by rw [hc]; exact hj), List.set_cons_zero, List.flatMap_cons, hy]
  | z :: xs, i + 1, j, x, y, u, h, hj, hy => by
    rw [List.flatMap_cons, List.set_append_right _ _ (by rw [hc, Nat.succ_mul]; omega), hc, show (i + 1) * sz + j - sz = i * sz + j by rw [Nat.succ_mul]; omega, flat_set hc xs i j x y u (by simpa using h) hj hy, List.set_cons_succ, List.flatMap_cons]
theorem flat_sets (hc : ∀ x, (c x).length = sz) : ∀ (xs : List α) (i : Nat) (y : α), i < xs.length → (xs.flatMap c).take (i * sz) ++ c y ++ (xs.flatMap c).drop (i * sz + sz) = (xs.set i y).flatMap c
  | [], i, y, h => by simp at h
  | z :: xs, 0, y, _ => by
    rw [Nat.zero_mul, Nat.zero_add, List.take_zero, List.nil_append, List.flatMap_cons, List.set_cons_zero, List.flatMap_cons, List.drop_append, hc, Nat.sub_self, List.drop_zero, List.drop_of_length_le (by rw [hc]; omega), List.nil_append]
  | z :: xs, i + 1, y, h => by
    have e1 : (i + 1) * sz = sz + i * sz := by rw [Nat.succ_mul]; omega
    rw [List.flatMap_cons, List.set_cons_succ, List.flatMap_cons, e1, Nat.add_assoc, ← hc z, List.take_length_add_append, List.drop_length_add_append, hc z, ← flat_sets hc xs i y (by simpa using h)]
    simp only [List.append_assoc]
theorem K.pubE {e w : World} {L A : Own} {t : Nat} (hc : ∀ x, (c x).length = sz) (hK : K e w G (A ++ L)) (ho : OS sz t v xs.length (xs.flatMap c) A) :
    ∃ G', VLe G G' ∧ SlR sz (EF c) G' v xs ∧ K e w G' L :=
  K.pubS (fun _ h => h) hK ho fun i x hx => ⟨c x, hc x, fun j u hj => by rw [flat_get' hc xs i j x hx (by have := (List.getElem?_eq_some_iff.1 hj).1; rw [hc] at this; exact this)]; exact hj, rfl⟩
end
section
variable {P : Program} {n : Nat} {Q : Po} {f : Sl} {w : World} {ops : Array Oper} {rest : List Oper}
  {dst : Option Tmp} {d : Nat} {ty : TypeId} {pos : String} {af : Array Edge} {g : Option (Nat × Bool)} {e : World} {G : View} {L A : Own}
theorem ixm {T E' sz : Nat} {x i : Operand} {v : Value} {l m : Nat} {k : IntKind} {j : Int} (hT : P.underlying T = some (.slice E')) (hE : (P.info? E').map (·.size) = some sz)
    (hx : ev n f x = v) (hs : SlW v l) (hi : ev n f i = .int k j) (hj : j = (m : Int)) (h1 : m < l) :
    St P n ⟨dst, .indexAddr T x i, ty, pos, af, g⟩ f w (.pointer (some (elA v (m * sz)))) w := ixn hT hE hx hs (hj ▸ hi) h1
theorem ixm1 {T E' : Nat} {x i : Operand} {v : Value} {l m : Nat} {k : IntKind} {j : Int} (hT : P.underlying T = some (.slice E')) (hE : (P.info? E').map (·.size) = some 1)
    (hx : ev n f x = v) (hs : SlW v l) (hi : ev n f i = .int k j) (hj : j = (m : Int)) (h1 : m < l) :
    St P n ⟨dst, .indexAddr T x i, ty, pos, af, g⟩ f w (.pointer (some (elA v m))) w := ixn1 hT hE hx hs (hj ▸ hi) h1
theorem fe {S k m i : Nat} {x : Operand} {v : Value} {fs : Array Field} {fl : Field} (hS : P.underlying S = some (.struct fs)) (hk : fs[k]? = some fl)
    (hz : (P.info? fl.type).map (fun i => i.size == 0) = some false) (hx : ev n f x = .pointer (some (elA v i))) (hw : SlW v m) (hm : 0 < m) :
    St P n ⟨dst, .fieldAddr S x k, ty, pos, af, g⟩ f w (.pointer (some (elA v (i + fl.offset)))) w := by
  rw [elA_mk] at hx
  have := fa (P := P) (n := n) (f := f) (w := w) (dst := dst) (ty := ty) (pos := pos) (af := af) (g := g) hS hk hz hx
  rw [elA_add hw hm] at this; exact this
theorem lsF {α : Type} {c : α → List Value} {T sz i : Nat} {x : Operand} {v : Value} {xs : List α} (hK : K e w G L) (h1 : AggC P T) (hs : (P.info? T).map (·.size) = some sz)
    (hp : ev n f x = .pointer (some (elA v (i * sz)))) (h : SlR sz (EF c) G v xs) (hi : i < xs.length) : St P n ⟨dst, .load T x, ty, pos, af, g⟩ f w (.agg (c xs[i]).toArray) w := by
  obtain ⟨cs, h2, h3, h4⟩ := h.get hi
  have h4' : cs = c xs[i] := h4
  subst h4'
  exact lsV hK h1 hs hp h.1 (by omega) h2 h3
theorem lsW {T sz i m t : Nat} {x : Operand} {v : Value} {cs u : List Value} (hK : K e w G (A ++ L)) (ho : OS sz t v m cs A) (h1 : AggC P T) (hs : (P.info? T).map (·.size) = some sz)
    (hp : ev n f x = .pointer (some (elA v (i * sz)))) (hl : u.length = sz) (hi : i < m) (hu : ∀ j c, u[j]? = some c → cs[i * sz + j]? = some c) : St P n ⟨dst, .load T x, ty, pos, af, g⟩ f w (.agg u.toArray) w := by
  rw [elA_mk] at hp
  refine lsC h1 hs hp hl fun j c hj => ?_
  rw [elA_add ho.slw (by omega)]
  exact ho.cell hK (hu j c hj)
theorem mn {x y : Operand} {a b : Int} {k : IntKind} {ts : Array TypeId} (hx : ev n f x = .int k a) (hy : ev n f y = .int k b) : St P n ⟨dst, .call ⟨.builtin .min, #[x, y], ts⟩, ty, pos, af, g⟩ f w (.int k (min a b)) w := by
  unfold St execOp
  have : (if b < a then b else a) = min a b := by rw [Int.min_def]; split <;> split <;> omega
  simp [resolve, invoke, builtin, Builtin.min_, Builtin.min2, hx, hy, this]
theorem mx {x y : Operand} {a b : Int} {k : IntKind} {ts : Array TypeId} (hx : ev n f x = .int k a) (hy : ev n f y = .int k b) : St P n ⟨dst, .call ⟨.builtin .max, #[x, y], ts⟩, ty, pos, af, g⟩ f w (.int k (max a b)) w := by
  unfold St execOp
  have : (if a < b then b else a) = max a b := by rw [Int.max_def]; split <;> split <;> omega
  simp [resolve, invoke, builtin, Builtin.max_, Builtin.max2, hx, hy, this]
/-! comparisons with nil -/
theorem run_equalIn_ptr {T E' : Nat} {p : Option Addr} (hT : P.underlying T = some (.pointer E')) (w : World) (d : Nat) : (Op.equalIn (d + 1) T (.pointer p) (.pointer none)).run P w = .ok p.isNone w := by
  cases p <;> simp [Op.equalIn, run_underlying hT]
theorem run_eq_ptr {T E' : Nat} {p : Option Addr} (hT : P.underlying T = some (.pointer E')) (w : World) : (Op.equal T (.pointer p) (.pointer none)).run P w = .ok p.isNone w := run_equalIn_ptr hT w 9999
theorem run_equalIn_sl {T E' m : Nat} {a : Option Addr} {c : Nat} (hT : P.underlying T = some (.slice E')) (w : World) (d : Nat) : (Op.equalIn (d + 1) T (.slice a m c) (.slice none 0 0)).run P w = .ok a.isNone w := by
  cases a <;> simp [Op.equalIn, run_underlying hT]
theorem eqPn {T T' E' : Nat} {x y : Operand} {p : Option Addr} (hT : P.underlying T = some (.pointer E')) (hx : ev n f x = .pointer p) (hy : ev n f y = .pointer none) :
    St P n ⟨dst, .binOp .eql T x y T', ty, pos, af, g⟩ f w (.bool p.isNone) w := by
  unfold St execOp
  simp [hx, hy, eqGuard, binOp, run_eq_ptr hT]
theorem nePn {T T' E' : Nat} {x y : Operand} {p : Option Addr} (hT : P.underlying T = some (.pointer E')) (hx : ev n f x = .pointer p) (hy : ev n f y = .pointer none) :
    St P n ⟨dst, .binOp .neq T x y T', ty, pos, af, g⟩ f w (.bool p.isSome) w := by
  unfold St execOp
  simp [hx, hy, eqGuard, binOp, run_eq_ptr hT]
def isNil : Value → Bool
  | .slice none _ _ => true
  | _ => false
theorem eqSn {T T' E' m : Nat} {x y : Operand} {v : Value} (hT : P.underlying T = some (.slice E')) (hx : ev n f x = v) (hs : SlLen v m) (hy : ev n f y = .slice none 0 0) :
    St P n ⟨dst, .binOp .eql T x y T', ty, pos, af, g⟩ f w (.bool (isNil v)) w := by
  obtain ⟨a, c, rfl⟩ := hs
  have h : (Op.equal T (.slice a m c) (.slice none 0 0)).run P w = .ok a.isNone w := run_equalIn_sl hT w 9999
  unfold St execOp
  simp [hx, hy, eqGuard, binOp, h, isNil]
  cases a <;> rfl
theorem bsS1 {T E' sz by' : Nat} {z : Value} {zl vs : List Value} {x : Operand} (hK : K e w G L) (hT : P.underlying T = some (.slice E')) (hi : Inf P E' z sz by') (hz : z.cells = zl.toArray) (hzl : zl.length = sz)
    (hx : ev n f x = .agg vs.toArray) (hl : vs.length = sz) (hm1 : Nat.ble 1 sz = true) (hm2 : Nat.ble sz 1000 = true)
    (h : ∀ b w1, K e w1 G ((b, row vs E') :: L) → WL P n ops Q rest (upd f d (.slice (some ⟨b, 0, none⟩) 1 1)) w1) :
    WL P n ops Q (⟨some d, .buildSlice T 1 [(0, x)].toArray, ty, pos, af, none⟩ :: rest) f w := by
  obtain ⟨i, g1, g2, g3, _⟩ := hi.get
  refine vl ?_ (h w.heap.size (w.alloc (row vs E')) (hK.alloc _))
  have hm1' : 1 ≤ sz := Nat.le_of_ble_eq_true hm1
  have hm2' : sz ≤ 1000 := Nat.le_of_ble_eq_true hm2
  have hrange : ((Array.range (1 * sz)).map fun i : Nat => zl.toArray[i % sz]!) = zl.toArray := by
    apply Array.ext
    · simp [hzl]
    · intro j h1 h2
      have hj : j < sz := by simpa using h1
      simp [Nat.mod_eq_of_lt hj, show j < zl.length by omega]
  have hsp := splice_fold vs zl 0 0 (by omega)
  simp only [Nat.zero_add, List.take_zero, List.nil_append] at hsp
  have hdr : zl.drop vs.length = [] := List.drop_of_length_le (by omega)
  rw [hdr, List.append_nil] at hsp
  have hf : Instr.fill (fun i => some (i * sz, sz)) zl.toArray [(0, Value.agg vs.toArray)] = some vs.toArray := by
    have hc : (Value.agg vs.toArray).cells = vs.toArray := rfl
    have hcond : ¬ (decide (vs.toArray.size ≠ sz) || decide (0 * sz + vs.toArray.size > zl.toArray.size)) = true := by simp [hl, hzl]
    have hz' : vs.toArray.zipIdx = (vs.zipIdx 0).toArray := by simp
    have hf' : vs.toArray.zipIdx.foldl (fun cs x => match x with | (c, j) => cs.setIfInBounds (0 * sz + j) c) zl.toArray = vs.toArray := by
      rw [hz', List.foldl_toArray]
      simpa using hsp
    simp only [Instr.fill, hc]
    rw [hf']
    simp [hl, hzl]
  unfold St execOp
  have hle : ¬ 1 * sz > 2 ^ 24 := by omega
  have hne : ¬ 1 * sz = 0 := by omega
  have hmap : (([(0, x)].toArray : Array (Nat × Operand)).map fun x => match x with | (i, x) => (i, ev n f x)).toList = [(0, .agg vs.toArray)] := by simp [hx]
  simp only [Instr.buildSlice, Sem.run_bind, run_underlying hT, Result.andThen_ok, sizeOf, typeInfo, run_program, g1, Sem.run_pure, g3, zeroValue, hmap]
  simp only [hle, hne, if_false, Sem.run_bind, Sem.run_pure, Result.andThen_ok, run_program, g1, g2, hz, List.size_toArray, hzl, hrange]
  simp [hf, run_new]
theorem take_splice {α : Type} (X us : List α) (a M : Nat) (h : a + us.length ≤ M) (hM : M ≤ X.length) :
    (X.take a ++ us ++ X.drop (a + us.length)).take M = (X.take M).take a ++ us ++ (X.take M).drop (a + us.length) := by
  have hl : (X.take a ++ us).length = a + us.length := by rw [List.length_append, List.length_take, Nat.min_eq_left (by omega)]
  rw [List.take_append, hl, List.take_of_length_le (by omega), List.take_take, Nat.min_eq_left (by omega), List.drop_take]
theorem osSetC {T i m t sz sz1 by' : Nat} {x y : Operand} {v u z : Value} {cs : List Value} (hK : K e w G (A ++ L)) (ho : OS sz t v m cs A) (him : i < m * sz) (hi : Inf P T z sz1 by') (hs : Nat.beq sz1 1 = true)
    (hp : ev n f x = .pointer (some (elA v i))) (hv : ev n f y = u) (h1 : one u = true)
    (h : ∀ A' w1, OS sz t v m (cs.set i u) A' → K e w1 G (A' ++ L) → WL P n ops Q rest (updO f dst undef) w1) :
    WL P n ops Q (⟨dst, .store T x y, ty, pos, af, none⟩ :: rest) f w := by
  obtain ⟨hl, ⟨_, h0, _⟩ | ⟨b, cap, cur, rfl, rfl, g1, g2, g3, g4⟩⟩ := ho
  · subst h0; simp at him
  · have hr : (Obj.cells cur t (0, 0)) = row cur.toList t := by simp [row]
    rw [hr] at hK
    have hcap : m * sz ≤ cap * sz := Nat.mul_le_mul_right _ g1
    refine soi hK hi hs 0 rfl (by rw [hp]; simp [elA]) hv h1 (by simp; omega) fun w1 hK1 => h [(b, .cells (cur.toList.set i u).toArray t (0, 0))] w1 ⟨by rw [List.length_set]; exact hl, .inr ⟨b, cap, (cur.toList.set i u).toArray, rfl, rfl, g1, g2, by simpa using g3, ?_⟩⟩ hK1
    rw [← g4]
    rw [List.take_set]
theorem osSetS {T i m t sz by' : Nat} {x y : Operand} {v z : Value} {cs us : List Value} (hK : K e w G (A ++ L)) (ho : OS sz t v m cs A) (him : i < m) (hi : Inf P T z sz by')
    (hp : ev n f x = .pointer (some (elA v (i * sz)))) (hv : ev n f y = .agg us.toArray) (hl : us.length = sz) (h1 : us.all one = true)
    (h : ∀ A' w1, OS sz t v m (cs.take (i * sz) ++ us ++ cs.drop (i * sz + sz)) A' → K e w1 G (A' ++ L) → WL P n ops Q rest (updO f dst undef) w1) :
    WL P n ops Q (⟨dst, .store T x y, ty, pos, af, none⟩ :: rest) f w := by
  obtain ⟨hcl, ⟨_, h0, _⟩ | ⟨b, cap, cur, rfl, rfl, g1, g2, g3, g4⟩⟩ := ho
  · subst h0; simp at him
  · have hr : (Obj.cells cur t (0, 0)) = row cur.toList t := by simp [row]
    rw [hr] at hK
    have h2 : i * sz + sz ≤ m * sz := by rw [← Nat.succ_mul]; exact Nat.mul_le_mul_right _ him
    have hcap : m * sz ≤ cap * sz := Nat.mul_le_mul_right _ g1
    refine soSi hK hi 0 rfl (by rw [hp]; simp [elA]) hv hl h1 (by simp; omega) fun w1 hK1 => h [(b, .cells (cur.toList.take (i * sz) ++ us ++ cur.toList.drop (i * sz + us.length)).toArray t (0, 0))] w1 ⟨?_, .inr ⟨b, cap, (cur.toList.take (i * sz) ++ us ++ cur.toList.drop (i * sz + us.length)).toArray, rfl, rfl, g1, g2, ?_, ?_⟩⟩ hK1
    · simp only [List.length_append, List.length_take, List.length_drop, hcl]; omega
    · simp; omega
    · subst hl
      have hcl' : cur.toList.length = cap * us.length := by simpa using g3
      rw [← g4]
      exact take_splice _ _ _ _ h2 (by omega)
end
open Go
theorem K.unpub {e w w' : World} {G : View} {A L : Own} (h : K e w G (A ++ L)) (h' : K e w' (addV G A) L) : K e w' G (A ++ L) := by
  refine ⟨h'.tape, h'.os, h'.out, fun b o hb => h'.view b o (h.addV_le b o hb), ?_, h.sep, h.nodup⟩
  intro b o hb
  rcases List.mem_append.1 hb with hb | hb
  · exact h'.view b o (addV_mem (by have := h.nodup; rw [List.map_append] at this; exact (List.nodup_append.1 this).1) hb)
  · exact h'.own b o hb
theorem OS.ints {G : View} {A : Own} {t : Nat} {v : Value} {xs : List Int} (ho : OS 1 t v xs.length (ints xs) A) : IntS (addV G A) v xs := by
  refine OS.pub ho ho.nodup fun i x hx => ⟨[.int .i64 x], rfl, fun j u hj => ?_, rfl⟩
  have hj0 : j = 0 := by have := (List.getElem?_eq_some_iff.1 hj).1; simp at this; exact this
  subst hj0
  simp at hj; subst hj
  simp [Ro.ints, hx]
theorem Ret.own {P : Program} {F : FuncId} {args : Array Value} {e w : World} {G : View} {A L : Own} {R : Value → Prop} (hK : K e w G (A ++ L))
    (h : K e w (addV G A) L → Ret P F args w (fun r w' => R r ∧ K e w' (addV G A) L)) : Ret P F args w (fun r w' => R r ∧ K e w' G (A ++ L)) :=
  (h hK.pub).mono fun _ _ ⟨h1, h2⟩ => ⟨h1, hK.unpub h2⟩
open Go
theorem ints_get {xs : List Int} {k : Nat} (hk : k < xs.length) : (ints xs)[k]? = some (.int .i64 (xs.getD k 0)) := by simp [ints, hk]
theorem ints_set (xs : List Int) (k : Nat) (a : Int) : (ints xs).set k (.int .i64 a) = ints (xs.set k a) := by simp [ints, List.map_set]
theorem ints_snoc (xs : List Int) (a : Int) : ints xs ++ [.int .i64 a] = ints (xs ++ [a]) := by simp [ints]
theorem ints_app (xs ys : List Int) : ints xs ++ ints ys = ints (xs ++ ys) := by simp [ints]
def ChV (G : View) : Value → List Int → Prop
  | v, [] => v = .pointer none
  | v, k :: ks => ∃ b v', v = .pointer (some ⟨b, 0, none⟩) ∧ cellV G ⟨b, 0, none⟩ = some (.int .i64 k) ∧ cellV G ⟨b, 1, none⟩ = some v' ∧ ChV G v' ks
theorem ChV.mono {G G' : View} (hG : VLe G G') : ∀ {ks : List Int} {v : Value}, ChV G v ks → ChV G' v ks
  | [], _, h => h
  | _ :: _, _, ⟨b, v', h1, h2, h3, h4⟩ => ⟨b, v', h1, cellV.mono hG h2, cellV.mono hG h3, ChV.mono hG h4⟩
theorem ChV.one : ∀ {ks : List Int} {G : View} {v : Value}, ChV G v ks → one v = true
  | [], _, _, h => by rw [show _ = _ from h]; rfl
  | _ :: _, _, _, ⟨_, _, h, _⟩ => by rw [h]; rfl
theorem ChV.ptr : ∀ {ks : List Int} {G : View} {v : Value}, ChV G v ks → ∃ p, v = .pointer p ∧ (p.isSome = true ↔ ks ≠ [])
  | [], _, _, h => ⟨none, h, by simp⟩
  | _ :: _, _, _, ⟨_, _, h, _⟩ => ⟨_, h, by simp⟩
theorem K.link {e w : World} {G : View} {L : Own} {b t : Nat} {k : Int} {ks : List Int} {v : Value} (hK : K e w G ((b, row [.int .i64 k, v] t) :: L)) (h : ChV G v ks) :
    ∃ G', VLe G G' ∧ ChV G' (.pointer (some ⟨b, 0, none⟩)) (k :: ks) ∧ K e w G' L := by
  have hg : addV G [(b, row [.int .i64 k, v] t)] b = some (row [.int .i64 k, v] t) := addV_mem (by simp) (List.mem_cons_self ..)
  have hle := K.addV_le (A := [(b, row [.int .i64 k, v] t)]) hK
  exact ⟨_, hle, ⟨b, v, rfl, by unfold cellV; simp only [hg]; rfl, by unfold cellV; simp only [hg]; rfl, h.mono hle⟩, K.pub (A := [(b, row [.int .i64 k, v] t)]) hK⟩
open Go
theorem IntS.cells {G : View} {v : Value} {xs : List Int} (h : IntS G v xs) {j : Nat} {c : Value} (hj : (ints xs)[j]? = some c) : cellV G (elA v j) = some c := by
  have hlt : j < xs.length := by have := (List.getElem?_eq_some_iff.1 hj).1; simpa using this
  rw [h.at hlt]
  simp [ints, hlt] at hj
  rw [hj]
theorem ints_one {xs : List Int} : ∀ u ∈ ints xs, one u = true := by
  intro u hu
  obtain ⟨x, _, rfl⟩ := List.mem_map.1 hu
  rfl
theorem SlW.nil_len {v : Value} {m : Nat} (h : SlW v m) (hn : isNil v = true) : m = 0 := by
  obtain ⟨a, c, rfl, _, _, h0 | ⟨b, o, rfl⟩⟩ := h
  · exact h0
  · simp [isNil] at hn
theorem OS.none {t b : Nat} {sz : Nat} : OS sz t (.slice (some ⟨b, 0, none⟩) 0 0) 0 [] [(b, row [] t)] := OS.lit (by simp) (Nat.zero_le _)
section
variable {P : Program} {n : Nat} {Q : Po} {f : Sl} {w : World} {ops : Array Oper} {rest : List Oper} {d : Nat} {pos : String} {af : Array Edge} {e : World} {G : View} {L A : Own}
theorem apI {T E' ty' by' : Nat} {v u : Value} {x y : Operand} {xs ys : List Int} (hK : K e w G (A ++ L)) (hT : P.underlying T = some (.slice E')) (hi : Inf P E' (.int .i64 0) 1 by') (hby : Nat.ble by' 1000 = true)
    (hx : ev n f x = v) (ho : OS 1 E' v xs.length (ints xs) A) (hy : ev n f y = u) (hu : IntS G u ys) (hmk : xs.length + ys.length ≤ 1000000000)
    (h : ∀ v' A' w1, OS 1 E' v' (xs ++ ys).length (ints (xs ++ ys)) A' → K e w1 G (A' ++ L) → WL P n ops Q rest (upd f d v') w1) :
    WL P n ops Q (⟨some d, .call ⟨.builtin .append, #[x, y], #[T, T]⟩, ty', pos, af, none⟩ :: rest) f w :=
  ap hK hT hi rfl hby hx ho hy hu.1 (by simp) (fun _ _ hj => hK.cell (hu.cells hj)) ints_one hmk
    (fun v' A' w1 h2 h3 => h v' A' w1 (by rw [List.length_append, ← ints_app]; exact h2) h3)
theorem apI1 {T E' E2 ty' b2 by' : Nat} {v : Value} {x y : Operand} {xs : List Int} {k : Int} (hK : K e w G ((b2, row [.int .i64 k] E2) :: (A ++ L))) (hT : P.underlying T = some (.slice E')) (hi : Inf P E' (.int .i64 0) 1 by') (hby : Nat.ble by' 1000 = true)
    (hx : ev n f x = v) (ho : OS 1 E' v xs.length (ints xs) A) (hy : ev n f y = .slice (some ⟨b2, 0, none⟩) 1 1) (hmk : xs.length + 1 ≤ 1000000000)
    (h : ∀ v' A' w1, OS 1 E' v' (xs ++ [k]).length (ints (xs ++ [k])) A' → K e w1 G (A' ++ L) → WL P n ops Q rest (upd f d v') w1) :
    WL P n ops Q (⟨some d, .call ⟨.builtin .append, #[x, y], #[T, T]⟩, ty', pos, af, none⟩ :: rest) f w :=
  ap1 (news := [.int .i64 k]) hK hT hi rfl hby hx ho hy rfl rfl hmk (fun v' A' w1 h2 h3 => h v' A' w1 (by rw [List.length_append, ← ints_snoc]; exact h2) h3)
theorem apE1 {α : Type} {c : α → List Value} {T E' E2 ty' b2 by' sz : Nat} {z : Value} {v : Value} {x y : Operand} {xs : List α} {k : α} (hc : ∀ x, (c x).length = sz) (hone : (c k).all one = true) (hK : K e w G ((b2, row (c k) E2) :: (A ++ L))) (hT : P.underlying T = some (.slice E')) (hi : Inf P E' z sz by') (hz : z.cells.size = sz) (hby : Nat.ble by' 1000 = true)
    (hx : ev n f x = v) (ho : OS sz E' v xs.length (xs.flatMap c) A) (hy : ev n f y = .slice (some ⟨b2, 0, none⟩) 1 1) (hmk : xs.length + 1 ≤ 1000000000)
    (h : ∀ v' A' w1, OS sz E' v' (xs ++ [k]).length ((xs ++ [k]).flatMap c) A' → K e w1 G (A' ++ L) → WL P n ops Q rest (upd f d v') w1) :
    WL P n ops Q (⟨some d, .call ⟨.builtin .append, #[x, y], #[T, T]⟩, ty', pos, af, none⟩ :: rest) f w :=
  ap1 (news := c k) hK hT hi hz hby hx ho hy (by rw [hc]; simp) hone hmk (fun v' A' w1 h2 h3 => h v' A' w1 (by rw [List.length_append, List.flatMap_append]; simpa using h2) h3)
theorem SlR.cells {α : Type} {c : α → List Value} {sz : Nat} {v : Value} {xs : List α} (hc : ∀ x, (c x).length = sz) (hsz : 0 < sz) (h : SlR sz (EF c) G v xs) {j : Nat} {u : Value} (hj : (xs.flatMap c)[j]? = some u) : cellV G (elA v j) = some u := by
  have hlt : j < xs.length * sz := by have := (List.getElem?_eq_some_iff.1 hj).1; rw [flat_len hc] at this; exact this
  have h1 : j / sz < xs.length := (Nat.div_lt_iff_lt_mul hsz).2 hlt
  have h2 : j % sz < sz := Nat.mod_lt _ hsz
  have h3 : j / sz * sz + j % sz = j := by rw [Nat.mul_comm]; exact Nat.div_add_mod j sz
  have h4 := flat_get' hc xs (j / sz) (j % sz) xs[j / sz] (List.getElem?_eq_getElem h1) h2
  rw [h3] at h4
  have := h.cell h1 (j % sz) (u := u) (by rw [← h4]; exact hj)
  rw [h3] at this; exact this
theorem apE {α : Type} {c : α → List Value} {T E' ty' by' sz : Nat} {z : Value} {v u : Value} {x y : Operand} {xs ys : List α} (hc : ∀ x, (c x).length = sz) (hsz : Nat.ble 1 sz = true) (hone : ∀ k, (c k).all one = true) (hK : K e w G (A ++ L)) (hT : P.underlying T = some (.slice E')) (hi : Inf P E' z sz by') (hz : z.cells.size = sz) (hby : Nat.ble by' 1000 = true)
    (hx : ev n f x = v) (ho : OS sz E' v xs.length (xs.flatMap c) A) (hy : ev n f y = u) (hu : SlR sz (EF c) G u ys) (hmk : xs.length + ys.length ≤ 1000000000)
    (h : ∀ v' A' w1, OS sz E' v' (xs ++ ys).length ((xs ++ ys).flatMap c) A' → K e w1 G (A' ++ L) → WL P n ops Q rest (upd f d v') w1) :
    WL P n ops Q (⟨some d, .call ⟨.builtin .append, #[x, y], #[T, T]⟩, ty', pos, af, none⟩ :: rest) f w :=
  ap (news := ys.flatMap c) hK hT hi hz hby hx ho hy hu.1 (flat_len hc ys) (fun _ _ hj => hK.cell (hu.cells hc (Nat.le_of_ble_eq_true hsz) hj))
    (fun u hu => by obtain ⟨k, _, hk⟩ := List.mem_flatMap.1 hu; exact List.all_eq_true.1 (hone k) u hk) hmk
    (fun v' A' w1 h2 h3 => h v' A' w1 (by rw [List.length_append, List.flatMap_append]; exact h2) h3)
end
theorem filter_take_succ {α : Type} {p : α → Bool} {xs : List α} {i : Nat} (hi : i < xs.length) : (xs.take (i + 1)).filter p = (xs.take i).filter p ++ if p xs[i] then [xs[i]] else [] := by
  rw [List.take_succ_eq_append_getElem hi, List.filter_append]
  congr 1
  simp only [List.filter_cons, List.filter_nil]
theorem allc {a : Value} {l : List Value} (h : one a = true) (hl : l.all one = true) : (a :: l).all one = true := by rw [List.all_cons, h, hl]; rfl
open Go
section
variable {P : Program} {n : Nat} {f : Sl} {w : World} {dst : Option Tmp} {ty : TypeId} {pos : String} {af : Array Edge} {g : Option (Nat × Bool)}
end
open Go
theorem OS.ef {α : Type} {c : α → List Value} {G : View} {A : Own} {t sz : Nat} {v : Value} {xs : List α} (hc : ∀ x, (c x).length = sz) (ho : OS sz t v xs.length (xs.flatMap c) A) : SlR sz (EF c) (addV G A) v xs :=
  OS.pub ho ho.nodup fun i x hx => ⟨c x, hc x, fun j u hj => by rw [flat_get' hc xs i j x hx (by have := (List.getElem?_eq_some_iff.1 hj).1; rw [hc] at this; exact this)]; exact hj, rfl⟩
theorem flat_rep {α : Type} (c : α → List Value) (n : Nat) (x : α) : (List.replicate n (c x)).flatten = (List.replicate n x).flatMap c := by
  rw [List.flatMap_replicate]
def marks (k : Int) : Nat → List Int
  | 0 => []
  | n + 1 => k :: marks (k + 1) n
theorem marks_len (k : Int) : ∀ n, (marks k n).length = n := by
  intro n
  induction n generalizing k with
  | zero => rfl
  | succ n ih => simp [marks, ih]
theorem marks_get : ∀ (n i : Nat) (k : Int), (h : i < (marks k n).length) → (marks k n)[i] = k + i
  | 0, i, k, h => by simp [marks] at h
  | n + 1, 0, k, h => by simp [marks]
  | n + 1, i + 1, k, h => by
    simp only [marks, List.getElem_cons_succ]
    rw [marks_get n i (k + 1) (by simpa [marks] using h)]; omega
theorem marks_set {xs : List Int} {k : Int} {i m : Nat} (hm : xs.length = m) (hi : i < m) : (marks k i ++ xs.drop i).set i (k + i) = marks k (i + 1) ++ xs.drop (i + 1) := by
  have hl := marks_len k i
  have hs : marks k (i + 1) = marks k i ++ [k + i] := by
    clear hl hi hm
    induction i generalizing k with
    | zero => simp [marks]
    | succ i ih => rw [marks, ih]; simp [marks]; omega
  rw [List.set_append_right _ _ (by omega), hl, Nat.sub_self, List.drop_eq_getElem_cons (by omega), List.set_cons_zero, hs, List.append_assoc]; rfl
end Go.Ro
