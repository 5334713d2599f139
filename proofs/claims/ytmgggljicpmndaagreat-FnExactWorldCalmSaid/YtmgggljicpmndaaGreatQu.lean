/- Slices and variables in the memory of a walk: what they hold, and the operations that read and write them. Regions that draw their order and only read: one walk in the order of the text. Conditions: those that each row states. -/
import Derived.Test.YtmgggljicpmndaaGreatMem
import Derived.Deep.Quiet
namespace Go.Ro
open Go
/-! types, as closed facts -/
def OneC (P : Program) (T : TypeId) : Prop := ∃ d, P.underlying T = some d ∧ (match d with | .struct _ | .array _ _ => true | _ => false) = false
def AggC (P : Program) (T : TypeId) : Prop := ∃ d, P.underlying T = some d ∧ (match d with | .struct _ | .array _ _ => true | _ => false) = true
def Inf (P : Program) (T : TypeId) (z : Value) (sz bytes : Nat) : Prop := (P.info? T).map (fun i => (i.zero, i.size, i.bytes)) = some (some z, sz, bytes)
theorem Inf.get {P : Program} {T : TypeId} {z : Value} {sz bytes : Nat} (h : Inf P T z sz bytes) : ∃ i, P.info? T = some i ∧ i.zero = some z ∧ i.size = sz ∧ i.bytes = bytes := by
  unfold Inf at h
  cases hi : P.info? T with
  | none => rw [hi] at h; cases h
  | some i =>
    rw [hi] at h
    simp only [Option.map_some, Option.some.injEq, Prod.mk.injEq] at h
    exact ⟨i, rfl, h.1, h.2.1, h.2.2⟩
theorem run_isAgg_one {P : Program} {T : TypeId} (h : OneC P T) (w : World) : (isAgg T).run P w = .ok false w := by
  obtain ⟨d, hu, hd⟩ := h
  unfold isAgg
  rw [Sem.run_bind, run_underlying hu w]
  cases d <;> simp_all
theorem run_isAgg_agg {P : Program} {T : TypeId} (h : AggC P T) (w : World) : (isAgg T).run P w = .ok true w := by
  obtain ⟨d, hu, hd⟩ := h
  unfold isAgg
  rw [Sem.run_bind, run_underlying hu w]
  cases d <;> simp_all
/-! slices -/
def SlW (v : Value) (m : Nat) : Prop := ∃ a c, v = .slice a m c ∧ m ≤ c ∧ c ≤ maxLen ∧ (m = 0 ∨ ∃ b o, a = some ⟨b, o, none⟩)
theorem SlW.len {v : Value} {m : Nat} (h : SlW v m) : SlLen v m := let ⟨a, c, e, _⟩ := h; ⟨a, c, e⟩
theorem SlW.le {v : Value} {m : Nat} (h : SlW v m) : (m : Int) ≤ 9223372036854775807 := by
  obtain ⟨a, c, _, h1, h2, _⟩ := h
  unfold maxLen at h2; omega
def elA (v : Value) (k : Nat) : Addr := match v with | .slice (some a) _ _ => ⟨a.block, a.off + k, none⟩ | _ => ⟨0, 0, none⟩
def SlR {α : Type} (sz : Nat) (E : View → List Value → α → Prop) (G : View) (v : Value) (xs : List α) : Prop :=
  SlW v xs.length ∧ ∀ i x, xs[i]? = some x → ∃ cs, cs.length = sz ∧ (∀ j c, cs[j]? = some c → cellV G (elA v (i * sz + j)) = some c) ∧ E G cs x
section
variable {α : Type} {sz : Nat} {E : View → List Value → α → Prop} {G G' : View} {v : Value} {xs : List α}
theorem SlR.len (h : SlR sz E G v xs) : SlLen v xs.length := h.1.len
theorem SlR.le (h : SlR sz E G v xs) : (xs.length : Int) ≤ 9223372036854775807 := h.1.le
theorem SlR.get (h : SlR sz E G v xs) {i : Nat} (hi : i < xs.length) : ∃ cs, cs.length = sz ∧ (∀ j c, cs[j]? = some c → cellV G (elA v (i * sz + j)) = some c) ∧ E G cs xs[i] :=
  h.2 i xs[i] (List.getElem?_eq_getElem hi)
theorem SlR.mono (hE : ∀ cs x, E G cs x → E G' cs x) (h : SlR sz E G v xs) (hG : VLe G G') : SlR sz E G' v xs :=
  ⟨h.1, fun i x hx => let ⟨cs, h1, h2, h3⟩ := h.2 i x hx; ⟨cs, h1, fun j c hc => cellV.mono hG (h2 j c hc), hE _ _ h3⟩⟩
end
def EI (_ : View) (cs : List Value) (x : Int) : Prop := cs = [.int .i64 x]
abbrev IntS := SlR 1 EI
theorem IntS.mono {G G' : View} {v : Value} {xs : List Int} (h : IntS G v xs) (hG : VLe G G') : IntS G' v xs :=
  SlR.mono (G := G) (G' := G') (E := EI) (fun _ _ h => h) h hG
theorem IntS.at {G : View} {v : Value} {xs : List Int} (h : IntS G v xs) {i : Nat} (hi : i < xs.length) : cellV G (elA v i) = some (.int .i64 xs[i]) := by
  obtain ⟨cs, h1, h2, h3⟩ := h.get hi
  have h4 : cs = [.int .i64 xs[i]] := h3
  have := h2 0 (.int .i64 xs[i]) (by rw [h4]; rfl)
  simpa using this
section
variable {P : Program} {n : Nat} {Q : Po} {f : Sl} {w : World} {ops : Array Oper} {rest : List Oper}
  {dst : Option Tmp} {ty : TypeId} {pos : String} {af : Array Edge} {g : Option (Nat × Bool)} {e : World} {G : View} {L : Own}
theorem ix {T E' sz : Nat} {x i : Operand} {v : Value} {m : Nat} {k : IntKind} {j : Int} (hT : P.underlying T = some (.slice E')) (hE : (P.info? E').map (·.size) = some sz)
    (hx : ev n f x = v) (hs : SlW v m) (hi : ev n f i = .int k j) (h0 : 0 ≤ j) (h1 : j < m) :
    St P n ⟨dst, .indexAddr T x i, ty, pos, af, g⟩ f w (.pointer (some (elA v (j.toNat * sz)))) w := by
  obtain ⟨a, c, rfl, _, _, hb⟩ := hs
  obtain ⟨b, o, rfl⟩ : ∃ b o, a = some ⟨b, o, none⟩ := by
    rcases hb with hb | hb
    · omega
    · exact hb
  cases hq : P.info? E' with
  | none => rw [hq] at hE; cases hE
  | some q =>
    have hsz : q.size = sz := by simpa [hq] using hE
    unfold St execOp
    have hadd : (⟨b, o, none⟩ : Addr).add (j.toNat * sz) = ⟨b, o + j.toNat * sz, none⟩ := by
      unfold Addr.add
      split
      · rename_i h; rw [h]; rfl
      · rfl
    simp [hx, hi, Instr.indexAt, asIntOf, run_underlying hT, h0, h1, sizeOf, typeInfo, hq, hsz, hadd, elA]
theorem ixn {T E' sz : Nat} {x i : Operand} {v : Value} {m : Nat} {k : IntKind} {j : Nat} (hT : P.underlying T = some (.slice E')) (hE : (P.info? E').map (·.size) = some sz)
    (hx : ev n f x = v) (hs : SlW v m) (hi : ev n f i = .int k (j : Int)) (h1 : j < m) :
    St P n ⟨dst, .indexAddr T x i, ty, pos, af, g⟩ f w (.pointer (some (elA v (j * sz)))) w := by
  have := ix (P := P) (n := n) (f := f) (w := w) (dst := dst) (ty := ty) (pos := pos) (af := af) (g := g) hT hE hx hs hi (by omega) (by omega)
  simpa using this
theorem ixn1 {T E' : Nat} {x i : Operand} {v : Value} {m : Nat} {k : IntKind} {j : Nat} (hT : P.underlying T = some (.slice E')) (hE : (P.info? E').map (·.size) = some 1)
    (hx : ev n f x = v) (hs : SlW v m) (hi : ev n f i = .int k (j : Int)) (h1 : j < m) :
    St P n ⟨dst, .indexAddr T x i, ty, pos, af, g⟩ f w (.pointer (some (elA v j))) w := by
  have := ixn (P := P) (n := n) (f := f) (w := w) (dst := dst) (ty := ty) (pos := pos) (af := af) (g := g) hT hE hx hs hi h1
  simpa using this
theorem fa {S k : Nat} {x : Operand} {b o : Nat} {fs : Array Field} {fl : Field} (hS : P.underlying S = some (.struct fs)) (hk : fs[k]? = some fl)
    (hz : (P.info? fl.type).map (fun i => i.size == 0) = some false) (hx : ev n f x = .pointer (some ⟨b, o, none⟩)) :
    St P n ⟨dst, .fieldAddr S x k, ty, pos, af, g⟩ f w (.pointer (some ⟨b, o + fl.offset, none⟩)) w := by
  cases hq : P.info? fl.type with
  | none => rw [hq] at hz; cases hz
  | some q =>
    have hsz : ¬ q.size = 0 := by simpa [hq] using hz
    unfold St execOp
    have hadd : (⟨b, o, none⟩ : Addr).add fl.offset = ⟨b, o + fl.offset, none⟩ := by
      unfold Addr.add
      split
      · rename_i h; rw [h]; rfl
      · rfl
    simp [hx, Instr.fieldAt, run_underlying hS, hk, Instr.sureAddr, fieldPlace, sizeOf, typeInfo, hq, hsz, hadd]
theorem run_load_one {T : TypeId} (h : OneC P T) {a : Addr} {v : Value} (hc : w.cell? a = some v) : (Instr.loadAt T (.pointer (some a))).run P w = .ok v w := by
  simp [Instr.loadAt, Instr.sureAddr, loadVar, run_isAgg_one h, load, Sem.run, hc]
theorem ldC {T : Nat} {x : Operand} {a : Addr} {v : Value} (h1 : OneC P T) (hp : ev n f x = .pointer (some a)) (hc : w.cell? a = some v) :
    St P n ⟨dst, .load T x, ty, pos, af, g⟩ f w v w := by
  unfold St execOp
  simp [hp, run_load_one h1 hc]
theorem ldV {T : Nat} {x : Operand} {a : Addr} {v : Value} (hK : K e w G L) (h1 : OneC P T) (hp : ev n f x = .pointer (some a)) (hc : cellV G a = some v) :
    St P n ⟨dst, .load T x, ty, pos, af, g⟩ f w v w := ldC h1 hp (hK.cell hc)
theorem ldO {T : Nat} {x : Operand} {b o t : Nat} {cs : List Value} {v : Value} (hK : K e w G L) (h1 : OneC P T) (k : Nat) (hn : L[k]? = some (b, row cs t))
    (hp : ev n f x = .pointer (some ⟨b, o, none⟩)) (hc : cs[o]? = some v) : St P n ⟨dst, .load T x, ty, pos, af, g⟩ f w v w :=
  ldC h1 hp (by rw [row_cell (hK.own _ _ (List.mem_of_getElem? hn))]; exact hc)
theorem run_load_agg {T sz : Nat} (h : AggC P T) (hs : (P.info? T).map (·.size) = some sz) {b o : Nat} {cs : List Value} (hl : cs.length = sz)
    (hc : ∀ j c, cs[j]? = some c → w.cell? ⟨b, o + j, none⟩ = some c) : (Instr.loadAt T (.pointer (some ⟨b, o, none⟩))).run P w = .ok (.agg cs.toArray) w := by
  cases hq : P.info? T with
  | none => rw [hq] at hs; cases hs
  | some q =>
    have hsz : q.size = cs.length := by rw [hl]; simpa [hq] using hs
    have hl := run_loadCells_list (P := P) w ⟨b, o, none⟩ cs (fun j v hv => by
      have hadd : (⟨b, o, none⟩ : Addr).add j = ⟨b, o + j, none⟩ := by
        unfold Addr.add
        split
        · rename_i h; rw [h]; rfl
        · rfl
      rw [hadd]; exact hc j v hv)
    simp [Instr.loadAt, Instr.sureAddr, loadVar, run_isAgg_agg h, sizeOf, typeInfo, hq, hsz, hl]
theorem lsC {T sz : Nat} {x : Operand} {b o : Nat} {cs : List Value} (h1 : AggC P T) (hs : (P.info? T).map (·.size) = some sz) (hp : ev n f x = .pointer (some ⟨b, o, none⟩))
    (hl : cs.length = sz) (hc : ∀ j c, cs[j]? = some c → w.cell? ⟨b, o + j, none⟩ = some c) : St P n ⟨dst, .load T x, ty, pos, af, g⟩ f w (.agg cs.toArray) w := by
  unfold St execOp
  simp [hp, run_load_agg h1 hs hl hc]
theorem lsO {T sz : Nat} {x : Operand} {b t : Nat} {cs : List Value} (hK : K e w G L) (h1 : AggC P T) (hs : (P.info? T).map (·.size) = some sz) (k : Nat) (hn : L[k]? = some (b, row cs t))
    (hp : ev n f x = .pointer (some ⟨b, 0, none⟩)) (hl : cs.length = sz) : St P n ⟨dst, .load T x, ty, pos, af, g⟩ f w (.agg cs.toArray) w :=
  lsC h1 hs hp hl fun j c hj => by rw [Nat.zero_add, row_cell (hK.own _ _ (List.mem_of_getElem? hn))]; exact hj
theorem elA_mk (v : Value) (a : Nat) : elA v a = ⟨(elA v a).block, (elA v a).off, none⟩ := by
  unfold elA; split <;> rfl
theorem elA_add {v : Value} {m : Nat} (h : SlW v m) (hm : 0 < m) (a b : Nat) : (⟨(elA v a).block, (elA v a).off + b, none⟩ : Addr) = elA v (a + b) := by
  obtain ⟨s, c, rfl, _, _, h4⟩ := h
  rcases h4 with h4 | ⟨b', o', rfl⟩
  · omega
  · simp [elA, Nat.add_assoc]
theorem lsV {T sz : Nat} {x : Operand} {v : Value} {m k : Nat} {cs : List Value} (hK : K e w G L) (h1 : AggC P T) (hs : (P.info? T).map (·.size) = some sz)
    (hp : ev n f x = .pointer (some (elA v k))) (hw : SlW v m) (hm : 0 < m) (hl : cs.length = sz) (hc : ∀ j c, cs[j]? = some c → cellV G (elA v (k + j)) = some c) :
    St P n ⟨dst, .load T x, ty, pos, af, g⟩ f w (.agg cs.toArray) w := by
  rw [elA_mk] at hp
  exact lsC h1 hs hp hl fun j c hj => by rw [elA_add hw hm]; exact hK.cell (hc j c hj)
end
open Go
section
variable {P : Program} {n : Nat} {Q : Po} {f : Sl} {w : World} {ops : Array Oper} {rest : List Oper}
  {dst : Option Tmp} {d : Nat} {ty : TypeId} {pos : String} {af : Array Edge} {C : World → Prop} {R : Sl → Prop}
def WQ (P : Program) (n : Nat) (ops : Array Oper) (C : World → Prop) (R : Sl → Prop) (l : List Oper) (f : Sl) : Prop :=
  wpQuiet P ops C (fun a => ∃ g, a = mkA n g ∧ R g) l (mkA n f)
theorem wpQuiet_mono {Q Q' : Act → Prop} (hq : ∀ a, Q a → Q' a) : ∀ (l : List Oper) (a : Act), wpQuiet P ops C Q l a → wpQuiet P ops C Q' l a := by
  intro l
  induction l with
  | nil => intro a h; exact hq a h
  | cons o l ih =>
    intro a h
    unfold wpQuiet at h ⊢
    split
    · rename_i hw
      rw [if_pos hw] at h
      obtain ⟨v, h1, h2⟩ := h
      exact ⟨v, h1, ih _ h2⟩
    · rename_i hw
      rw [if_neg hw] at h
      exact ih _ h
theorem rgq {id : Nat} {l : List Oper} (C : World → Prop) (hm : P.follows .mixedOrders = true) (hB : Region.lexB .any l.toArray = true) (hC : C { w with drawn := w.drawn + 1 })
    (h : WQ P n l.toArray C (fun g => ∀ w', C w' → Q .normal g w') l f) : W P n (.region id l.toArray true) Q f w := by
  refine wp_region_quiet (C := C) hm hB hC ?_
  have h' : wpQuiet P l.toArray C (fun a => ∃ g, a = mkA n g ∧ ∀ w', C w' → Q .normal g w') l (mkA n f) := h
  have := wpQuiet_mono (Q' := fun a' => ∀ w', C w' → lift n Q .normal a' w') (fun a ⟨g, ha, hq⟩ w' hw' => ⟨g, ha, hq w' hw'⟩) l _ h'
  simpa using this
theorem qn (h : R f) : WQ P n ops C R [] f := ⟨f, rfl, h⟩
theorem qval {o : Oper} {v : Value} (hg : o.guard = none) (hrun : ∀ w, C w → St P n o f w v w) (h : WQ P n ops C R rest (updO f o.dst v)) : WQ P n ops C R (o :: rest) f := by
  unfold WQ at *
  unfold wpQuiet
  rw [if_pos (by simp [Region.wanted, hg])]
  refine ⟨v, fun w hw => ?_, ?_⟩
  · unfold Oper.quietAt
    rw [mkA_evalF, show (execOp (ev n f) o).run P w = .ok (.value v) w from hrun w hw]
    exact ⟨rfl, rfl⟩
  · rw [mkA_put]; exact h
theorem qv {op : Op} {v : Value} (hrun : ∀ w, C w → St P n ⟨some d, op, ty, pos, af, none⟩ f w v w) (h : WQ P n ops C R rest (upd f d v)) :
    WQ P n ops C R (⟨some d, op, ty, pos, af, none⟩ :: rest) f := qval rfl hrun h
theorem qcl {F : FuncId} {l : List Operand} {ts : Array TypeId} {vs : List Value} {v : Value} (hf : ∀ args w, (callFunc F args).run P w = .ok (.enter F args) w)
    (ha : l.map (ev n f) = vs) (hc : ∀ w, C w → Ret P F vs.toArray w (fun r w' => r = v ∧ C w'))
    (h : WQ P n ops C R rest (updO f dst v)) : WQ P n ops C R (⟨dst, .call ⟨.value (.func F), l.toArray, ts⟩, ty, pos, af, none⟩ :: rest) f := by
  unfold WQ at *
  unfold wpQuiet
  rw [if_pos (by simp [Region.wanted])]
  refine ⟨v, fun w hw => ?_, ?_⟩
  · unfold Oper.quietAt
    rw [mkA_evalF]
    have hrun : (execOp (ev n f) ⟨dst, .call ⟨.value (.func F), l.toArray, ts⟩, ty, pos, af, none⟩).run P w = .ok (.enter F vs.toArray) w := by
      unfold execOp
      simp only [resolve, Deferred.ofValue, ev, Sem.run_bind, Sem.run_pure, Result.andThen_ok, invoke, List.map_toArray, ha, List.append_toArray, List.append_nil]
      exact hf _ _
    rw [hrun]
    refine ⟨rfl, Calls.mono (hc w hw) ?_⟩
    rintro e w' ⟨v', he, hv, hC⟩
    subst hv; exact ⟨he, hC⟩
  · rw [mkA_put]; exact h
theorem qgy {op : Op} {j : Nat} {b : Bool} (hy : yl n ops f j = some b) (h : WQ P n ops C R (⟨dst, op, ty, pos, af, none⟩ :: rest) f) :
    WQ P n ops C R (⟨dst, op, ty, pos, af, some (j, b)⟩ :: rest) f := by
  unfold WQ at *
  unfold wpQuiet at *
  have hw : Region.wanted ⟨dst, op, ty, pos, af, some (j, b)⟩ (yielded ops (mkA n f).tmps) = true := by simp [Region.wanted, yl_eq, hy]
  have hw' : Region.wanted ⟨dst, op, ty, pos, af, none⟩ (yielded ops (mkA n f).tmps) = true := rfl
  rw [if_pos hw]
  rw [if_pos hw'] at h
  exact h
theorem qgn {op : Op} {j : Nat} {b : Bool} (hy : yl n ops f j = some (!b)) (h : WQ P n ops C R rest (updO f dst undef)) :
    WQ P n ops C R (⟨dst, op, ty, pos, af, some (j, b)⟩ :: rest) f := by
  unfold WQ at *
  unfold wpQuiet
  have hw : ¬ Region.wanted ⟨dst, op, ty, pos, af, some (j, b)⟩ (yielded ops (mkA n f).tmps) = true := by simp [Region.wanted, yl_eq, hy]
  rw [if_neg hw, mkA_put]; exact h
theorem qgu {op : Op} {j : Nat} {b : Bool} (hy : yl n ops f j = none) (h : WQ P n ops C R rest (updO f dst undef)) :
    WQ P n ops C R (⟨dst, op, ty, pos, af, some (j, b)⟩ :: rest) f := by
  unfold WQ at *
  unfold wpQuiet
  have hw : ¬ Region.wanted ⟨dst, op, ty, pos, af, some (j, b)⟩ (yielded ops (mkA n f).tmps) = true := by simp [Region.wanted, yl_eq, hy]
  rw [if_neg hw, mkA_put]; exact h
theorem qspl {l : List Oper} {t : Nat} {b : Bool} (hv : f t = .bool b) (h1 : b = true → WQ P n ops C R l (upd f t (.bool true)))
    (h2 : b = false → WQ P n ops C R l (upd f t (.bool false))) : WQ P n ops C R l f := by
  cases b
  · have := h2 rfl
    rw [upd_self hv] at this; exact this
  · have := h1 rfl
    rw [upd_self hv] at this; exact this
theorem qsplP {l : List Oper} {t : Nat} {p : Prop} [Decidable p] (hv : f t = .bool (decide p)) (h1 : p → WQ P n ops C R l (upd f t (.bool true)))
    (h2 : ¬ p → WQ P n ops C R l (upd f t (.bool false))) : WQ P n ops C R l f :=
  qspl hv (fun h => h1 (of_decide_eq_true h)) (fun h => h2 (of_decide_eq_false h))
/-! conversions and shifts -/
end
end Go.Ro
