/- A calculus of walks over slots: the kit's 'Code.wp' and 'wpList' said over a function from slot numbers to values. What single operations come to, over slots. Conditions: those that each row states. -/
import Derived.WalkKit
namespace Go.Ro
abbrev Sl := Nat → Value
abbrev Y : Bool := true
abbrev U : Bool := false
def upd (f : Sl) (d : Nat) (v : Value) : Sl := fun i => cond (Nat.beq i d) v (f i)
def ini : List Value → Sl
  | [], _ => undef
  | v :: _, 0 => v
  | _ :: l, n + 1 => ini l n
def updL (g : Sl) : List (Nat × Value) → Sl
  | [] => g
  | (d, v) :: l => upd (updL g l) d v
def Has (f : Sl) : List (Nat × Value) → Prop
  | [] => True
  | (d, v) :: l => f d = v ∧ Has f l
theorem upd_self {f : Sl} {d : Nat} {v : Value} (h : f d = v) : upd f d v = f := by
  funext i
  unfold upd
  cases hb : Nat.beq i d
  · rfl
  · have := Nat.eq_of_beq_eq_true hb
    subst this; exact h.symm
theorem Has.updL {f : Sl} : ∀ {l : List (Nat × Value)}, Has f l → updL f l = f
  | [], _ => rfl
  | (d, v) :: l, h => by
    show upd (Ro.updL f l) d v = f
    rw [Has.updL h.2]; exact upd_self h.1
def mkA (n : Nat) (f : Sl) : Act := ⟨(Array.range n).map f, []⟩
def ev (n : Nat) (f : Sl) : Operand → Value
  | .tmp t => cond (Nat.blt t n) (f t) undef
  | .const v => v
  | .global g => .pointer (some ⟨g, 0, none⟩)
  | .func F => .func (.func F) #[] #[]
theorem mkA_getD (n : Nat) (f : Sl) (t : Nat) : (mkA n f).tmps.getD t undef = cond (Nat.blt t n) (f t) undef := by
  unfold mkA
  cases h : Nat.blt t n
  · have : ¬ t < n := by
      intro hlt
      have := Nat.ble_eq_true_of_le (show t + 1 ≤ n from hlt)
      unfold Nat.blt at h
      rw [h] at this; cases this
    simp [Array.getD, this]
  · have : t < n := Nat.le_of_ble_eq_true (show Nat.ble (t + 1) n = true from h)
    simp [Array.getD, this]
theorem mkA_eval (n : Nat) (f : Sl) (x : Operand) : (mkA n f).eval x = ev n f x := by
  cases x with
  | tmp t => exact mkA_getD n f t
  | _ => rfl
theorem mkA_evalF (n : Nat) (f : Sl) : (mkA n f).eval = ev n f := funext (mkA_eval n f)
def updO (f : Sl) : Option Tmp → Value → Sl
  | some d, v => upd f d v
  | none, _ => f
theorem mkA_put (n : Nat) (f : Sl) (o : Option Tmp) (v : Value) : (mkA n f).put o v = mkA n (updO f o v) := by
  cases o with
  | none => rfl
  | some d =>
    simp only [Act.put, mkA, updO]
    congr 1
    apply Array.ext
    · simp
    · intro i h1 h2
      simp only [Array.size_setIfInBounds, Array.size_map, Array.size_range] at h1
      rw [Array.getElem_setIfInBounds (by simpa using h1)]
      simp only [Array.getElem_map, Array.getElem_range, upd]
      by_cases hd : d = i
      · subst hd; simp
      · have : Nat.beq i d = false := by
          cases hb : Nat.beq i d
          · rfl
          · exact absurd (Nat.eq_of_beq_eq_true hb).symm hd
        simp [this, hd]
abbrev Po := Exit → Sl → World → Prop
def lift (n : Nat) (Q : Po) : Exit → Act → World → Prop := fun e a w => ∃ g, a = mkA n g ∧ Q e g w
def W (P : Program) (n : Nat) (c : Code) (Q : Po) (f : Sl) (w : World) : Prop := c.wp P (lift n Q) (mkA n f) w
def WL (P : Program) (n : Nat) (ops : Array Oper) (Q : Po) (l : List Oper) (f : Sl) (w : World) : Prop :=
  wpList P ops (lift n Q) l (mkA n f) w
def Ret (P : Program) (F : FuncId) (args : Array Value) (w : World) (R : Value → World → Prop) : Prop :=
  Calls P F args w fun e w' => ∃ v, e = .returned v ∧ R v w'
theorem Ret.mono {P : Program} {F : FuncId} {args : Array Value} {w : World} {R R' : Value → World → Prop}
    (h : Ret P F args w R) (hr : ∀ v w', R v w' → R' v w') : Ret P F args w R' :=
  Calls.mono h fun _ _ ⟨v, he, hR⟩ => ⟨v, he, hr v _ hR⟩
section
variable {P : Program} {n : Nat} {Q : Po} {f : Sl} {w : World}
theorem W.mono {c : Code} {Q' : Po} (h : W P n c Q f w) (hq : ∀ e f w, Q e f w → Q' e f w) : W P n c Q' f w :=
  wp_mono h fun e _ w ⟨g, ha, q⟩ => ⟨g, ha, hq e g w q⟩
/-! the control -/
def Th (K : Sl → World → Prop) (Q : Po) : Po
  | .normal, f, w => K f w
  | e, f, w => Q e f w
theorem thn {K : Sl → World → Prop} (h : K f w) : Th K Q .normal f w := h
theorem the {K : Sl → World → Prop} {i : Nat} (h : Q (.exit i) f w) : Th K Q (.exit i) f w := h
theorem thr {K : Sl → World → Prop} (h : Q .ret f w) : Th K Q .ret f w := h
def Bk (id : Nat) (Q : Po) : Po
  | .exit id', f, w => cond (Nat.beq id' id) (Q .normal f w) (Q (.exit id') f w)
  | e, f, w => Q e f w
theorem bkn {id : Nat} (h : Q .normal f w) : Bk id Q .normal f w := h
theorem bkr {id : Nat} (h : Q .ret f w) : Bk id Q .ret f w := h
theorem bkh {id : Nat} (h : Q .normal f w) : Bk id Q (.exit id) f w := by
  have : Nat.beq id id = true := Nat.beq_refl id
  show cond (Nat.beq id id) _ _
  rw [this]; exact h
theorem sq {x y : Code} (h : W P n x (Th (W P n y Q) Q) f w) : W P n (.seq x y) Q f w :=
  wp_seq <| wp_mono h fun e a w ⟨g, ha, q⟩ => by
    cases e with
    | normal => subst ha; exact q
    | _ => exact ⟨g, ha, q⟩
theorem bk {id : Nat} {c : Code} (h : W P n c (Bk id Q) f w) : W P n (.block id c) Q f w :=
  wp_block <| wp_mono h fun e a w ⟨g, ha, q⟩ => by
    cases e with
    | exit i =>
      show if i = id then _ else _
      simp only [Bk] at q
      by_cases hi : i = id
      · subst hi
        have : Nat.beq i i = true := Nat.beq_refl i
        rw [this] at q
        rw [if_pos rfl]; exact ⟨g, ha, q⟩
      · have : Nat.beq i id = false := by
          cases hb : Nat.beq i id
          · rfl
          · exact absurd (Nat.eq_of_beq_eq_true hb) hi
        rw [this] at q
        rw [if_neg hi]; exact ⟨g, ha, q⟩
    | _ => exact ⟨g, ha, q⟩
theorem sk (h : Q .normal f w) : W P n .skip Q f w := wp_skip ⟨f, rfl, h⟩
theorem ex {i : Nat} (h : Q (.exit i) f w) : W P n (.exit i) Q f w := wp_exit ⟨f, rfl, h⟩
theorem rt (h : Q .ret f w) : W P n .ret Q f w := wp_ret ⟨f, rfl, h⟩
theorem cdB {c : Operand} {x y : Code} {b : Bool} (hc : ev n f c = .bool b) (ht : b = true → W P n x Q f w) (hf : b = false → W P n y Q f w) :
    W P n (.cond c x y) Q f w :=
  wp_cond_split (t := b) (by rw [mkA_eval]; exact hc) ht hf
theorem cdP {c : Operand} {x y : Code} {p : Prop} [Decidable p] (hc : ev n f c = .bool (decide p)) (ht : p → W P n x Q f w) (hf : ¬ p → W P n y Q f w) :
    W P n (.cond c x y) Q f w :=
  cdB hc (fun h => ht (of_decide_eq_true h)) (fun h => hf (of_decide_eq_false h))
theorem cdt {c : Operand} {x y : Code} (hc : ev n f c = .bool true) (h : W P n x Q f w) : W P n (.cond c x y) Q f w :=
  cdB hc (fun _ => h) (fun h' => by cases h')
theorem cdf {c : Operand} {x y : Code} (hc : ev n f c = .bool false) (h : W P n y Q f w) : W P n (.cond c x y) Q f w :=
  cdB hc (fun h' => by cases h') (fun _ => h)
def Ct {σ : Type} (L : σ → List (Nat × Value)) (I : σ → World → Prop) (Q : Po) : Po
  | .normal, f, w => ∃ s, Has f (L s) ∧ I s w
  | e, f, w => Q e f w
theorem ctn {σ : Type} {L : σ → List (Nat × Value)} {I : σ → World → Prop} (h : ∃ s, Has f (L s) ∧ I s w) : Ct L I Q .normal f w := h
theorem ctr {σ : Type} {L : σ → List (Nat × Value)} {I : σ → World → Prop} (h : Q .ret f w) : Ct L I Q .ret f w := h
theorem ct {c : Code} {σ : Type} (L : σ → List (Nat × Value)) (I : σ → World → Prop)
    (h : W P n c (Ct L I Q) f w) (hk : ∀ s g w', I s w' → Q .normal (updL g (L s)) w') : W P n c Q f w :=
  h.mono fun e f' w' q => by
    cases e with
    | normal =>
      obtain ⟨s, hh, hI⟩ := q
      have := hk s f' w' hI
      rw [hh.updL] at this; exact this
    | _ => exact q
theorem lp {c : Code} {σ : Type} (S : σ → List (Nat × Value)) (I : σ → World → Prop) (μ : σ → Nat) (s : σ) (h0 : Has f (S s)) (hI : I s w)
    (hr : ∀ s g w, I s w → W P n c (Th (fun f' w' => ∃ s', Has f' (S s') ∧ I s' w' ∧ μ s' < μ s) Q) (updL g (S s)) w) : W P n (.loop c) Q f w := by
  intro b k cs
  have key : ∀ m s f w, μ s = m → Has f (S s) → I s w →
      ∃ e a' w', lift n Q e a' w' ∧ Arrives P (lone (b.at (mkA n f) (.code c :: .inLoop c :: k)) cs w) b k cs e a' w' := by
    intro m
    induction m using Nat.strongRecOn with
    | _ m ih =>
      intro s f w hm hH hI
      have h1 := hr s f w hI
      rw [hH.updL] at h1
      obtain ⟨e, a₁, w₁, ⟨g, ha, hq⟩, harr⟩ := h1 b (.inLoop c :: k) cs
      cases e with
      | normal =>
        obtain ⟨s', hH', hI', hlt⟩ := hq
        subst ha
        obtain ⟨e₂, a₂, w₂, hq₂, harr₂⟩ := ih (μ s') (hm ▸ hlt) s' g w₁ rfl hH' hI'
        exact ⟨e₂, a₂, w₂, hq₂, .of_steps (Steps.trans harr (.one step_inLoop)) harr₂⟩
      | exit id => exact ⟨_, a₁, w₁, ⟨g, ha, hq⟩, .pass (x := .inLoop c) rfl (fun _ _ => .inl (by simp)) harr⟩
      | goto l => exact ⟨_, a₁, w₁, ⟨g, ha, hq⟩, .pass (x := .inLoop c) rfl (fun _ _ => .inl (by simp)) harr⟩
      | ret => exact ⟨_, a₁, w₁, ⟨g, ha, hq⟩, .pass (x := .inLoop c) rfl (fun _ _ => .inl (by simp)) harr⟩
      | panic ch => exact ⟨_, a₁, w₁, ⟨g, ha, hq⟩, .pass (x := .inLoop c) rfl (fun _ _ => .inl (by simp)) harr⟩
      | outgrown => exact ⟨_, a₁, w₁, ⟨g, ha, hq⟩, .pass (x := .inLoop c) rfl (fun _ _ => .inl (by simp)) harr⟩
  obtain ⟨e, a', w', hq, harr⟩ := key _ s f w rfl h0 hI
  exact ⟨e, a', w', hq, .of_steps (.one step_loop) harr⟩
/-! entering a function -/
def P1 (n t : Nat) (R : Value → World → Prop) : Po
  | .normal, f, w => R (ev n f (.tmp t)) w
  | .ret, f, w => R (ev n f (.tmp t)) w
  | _, _, _ => False
def P2 (n t u : Nat) (R : Value → World → Prop) : Po
  | .normal, f, w => R (.tuple #[ev n f (.tmp t), ev n f (.tmp u)]) w
  | .ret, f, w => R (.tuple #[ev n f (.tmp t), ev n f (.tmp u)]) w
  | _, _, _ => False
def P3 (n t u v : Nat) (R : Value → World → Prop) : Po
  | .normal, f, w => R (.tuple #[ev n f (.tmp t), ev n f (.tmp u), ev n f (.tmp v)]) w
  | .ret, f, w => R (.tuple #[ev n f (.tmp t), ev n f (.tmp u), ev n f (.tmp v)]) w
  | _, _, _ => False
def P0 (R : Value → World → Prop) : Po
  | .normal, _, w => R (.tuple #[]) w
  | .ret, _, w => R (.tuple #[]) w
  | _, _, _ => False
section
variable {t u v : Nat} {R : Value → World → Prop}
theorem p0n (h : R (.tuple #[]) w) : P0 R .normal f w := h
theorem p1r {a : Value} (ha : ev n f (.tmp t) = a) (h : R a w) : P1 n t R .ret f w := by subst ha; exact h
theorem p2r {a b : Value} (ha : ev n f (.tmp t) = a) (hb : ev n f (.tmp u) = b) (h : R (.tuple #[a, b]) w) : P2 n t u R .ret f w := by subst ha; subst hb; exact h
end
theorem ini_getD : ∀ (l : List Value) (i : Nat), ini l i = l.getD i undef
  | [], i => by simp [ini]
  | v :: l, 0 => by simp [ini]
  | v :: l, i + 1 => by simp [ini, ini_getD l i]
theorem enterQ {F : FuncId} {fn : Func} {c : Code} {args : List Value} {R : Value → World → Prop} (Q : Po)
    (hf : P.funcs[F]? = some fn) (hb : fn.body = some c) (hn : fn.ntmps = n) (hl : Nat.ble args.length n = true)
    (hq : ∀ e f w, Q e f w → (e = .normal ∨ e = .ret) ∧ ∃ v, (results fn (mkA n f).tmps).run P w = .ok v w ∧ R v w)
    (h : W P n c Q (ini args) w) : Ret P F args.toArray w R := by
  refine calls_of_wp hf hb ?_
  have hle : args.length ≤ n := Nat.le_of_ble_eq_true hl
  have hfr : ({ tmps := args.toArray ++ Array.replicate (fn.ntmps - args.toArray.size) undef, defers := [] } : Act) = mkA n (ini args) := by
    rw [hn]
    simp only [mkA]
    congr 1
    apply Array.ext
    · simp; omega
    · intro i h1 h2
      simp only [Array.getElem_map, Array.getElem_range, ini_getD]
      by_cases hi : i < args.length
      · rw [Array.getElem_append_left (by simpa using hi)]
        simp [List.getD, hi]
      · rw [Array.getElem_append_right (by simpa using hi)]
        simp [List.getD, List.getElem?_eq_none (Nat.le_of_not_lt hi)]
  rw [hfr]
  refine wp_mono h ?_
  rintro e a w ⟨g, rfl, q⟩
  obtain ⟨he, v, hv, hR⟩ := hq e g w q
  rcases he with rfl | rfl
  · exact ⟨rfl, v, hv, v, rfl, hR⟩
  · exact ⟨rfl, v, hv, v, rfl, hR⟩
theorem enter1 {F : FuncId} {fn : Func} {c : Code} {t : Nat} {args : List Value} {R : Value → World → Prop}
    (hf : P.funcs[F]? = some fn) (hb : fn.body = some c) (hn : fn.ntmps = n) (hr : fn.results = #[.tmp t]) (hl : Nat.ble args.length n = true)
    (h : W P n c (P1 n t R) (ini args) w) : Ret P F args.toArray w R :=
  enterQ _ hf hb hn hl (by
    rintro e f w q
    have hres : (results fn (mkA n f).tmps).run P w = .ok (ev n f (.tmp t)) w := by rw [results_tmp hr, mkA_getD]; rfl
    cases e with
    | normal => exact ⟨.inl rfl, _, hres, q⟩
    | ret => exact ⟨.inr rfl, _, hres, q⟩
    | _ => exact q.elim) h
theorem enter2 {F : FuncId} {fn : Func} {c : Code} {t u : Nat} {args : List Value} {R : Value → World → Prop}
    (hf : P.funcs[F]? = some fn) (hb : fn.body = some c) (hn : fn.ntmps = n) (hr : fn.results = #[.tmp t, .tmp u]) (hl : Nat.ble args.length n = true)
    (h : W P n c (P2 n t u R) (ini args) w) : Ret P F args.toArray w R :=
  enterQ _ hf hb hn hl (by
    rintro e f w q
    have hres : (results fn (mkA n f).tmps).run P w = .ok (.tuple #[ev n f (.tmp t), ev n f (.tmp u)]) w := by rw [results_tmp2 hr, mkA_getD, mkA_getD]; rfl
    cases e with
    | normal => exact ⟨.inl rfl, _, hres, q⟩
    | ret => exact ⟨.inr rfl, _, hres, q⟩
    | _ => exact q.elim) h
theorem enter0 {F : FuncId} {fn : Func} {c : Code} {args : List Value} {R : Value → World → Prop}
    (hf : P.funcs[F]? = some fn) (hb : fn.body = some c) (hn : fn.ntmps = n) (hr : fn.results = #[]) (hl : Nat.ble args.length n = true)
    (h : W P n c (P0 R) (ini args) w) : Ret P F args.toArray w R :=
  enterQ _ hf hb hn hl (by
    rintro e f w q
    have hres : (results fn (mkA n f).tmps).run P w = .ok (.tuple #[]) w := results_none hr _ _ _
    cases e with
    | normal => exact ⟨.inl rfl, _, hres, q⟩
    | ret => exact ⟨.inr rfl, _, hres, q⟩
    | _ => exact q.elim) h
/-! regions and operations -/
theorem rg {id : Nat} {l : List Oper} (h : WL P n l.toArray Q l f w) : W P n (.region id l.toArray false) Q f w := wp_region_lit h
variable {ops : Array Oper} {rest : List Oper}
theorem nl (h : Q .normal f w) : WL P n ops Q [] f w := wpList_nil ⟨f, rfl, h⟩
theorem val {o : Oper} {v : Value} {w' : World} (hg : o.guard = none) (hrun : (execOp (ev n f) o).run P w = .ok (.value v) w')
    (h : WL P n ops Q rest (updO f o.dst v) w') : WL P n ops Q (o :: rest) f w := by
  refine wpList_plain hg fun K hK => ?_
  show o.upon P _ _ _ ((execOp (mkA n f).eval o).run P w)
  rw [mkA_evalF, hrun]
  show K ((mkA n f).put o.dst v) w'
  rw [mkA_put]; exact hK _ _ h
theorem skp {o : Oper} {w' : World} (hg : o.guard = none) (hrun : (execOp (ev n f) o).run P w = .ok .skip w')
    (h : WL P n ops Q rest (updO f o.dst undef) w') : WL P n ops Q (o :: rest) f w := by
  refine wpList_plain hg fun K hK => ?_
  show o.upon P _ _ _ ((execOp (mkA n f).eval o).run P w)
  rw [mkA_evalF, hrun]
  show K ((mkA n f).put o.dst undef) w'
  rw [mkA_put]; exact hK _ _ h
theorem cal {o : Oper} {F : FuncId} {args : Array Value} {w' : World} {R : Value → World → Prop} (hg : o.guard = none)
    (hrun : (execOp (ev n f) o).run P w = .ok (.enter F args) w') (hc : Ret P F args w' R)
    (h : ∀ v w'', R v w'' → WL P n ops Q rest (updO f o.dst v) w'') : WL P n ops Q (o :: rest) f w := by
  refine wpList_plain hg fun K hK => ?_
  show o.upon P _ _ _ ((execOp (mkA n f).eval o).run P w)
  rw [mkA_evalF, hrun]
  refine Calls.mono hc ?_
  rintro e w'' ⟨v, rfl, hR⟩
  show K ((mkA n f).put o.dst v) w''
  rw [mkA_put]; exact hK _ _ (h v w'' hR)
def yl (n : Nat) (ops : Array Oper) (f : Sl) (j : Nat) : Option Bool :=
  match (ops[j]?).bind (·.dst) with
  | some t => match ev n f (.tmp t) with
    | .bool b => some b
    | _ => none
  | none => none
theorem yl_eq (j : Nat) : yielded ops (mkA n f).tmps j = yl n ops f j := by
  unfold yielded yl
  cases h : (ops[j]?).bind (·.dst) with
  | none => rfl
  | some t =>
    simp only [Option.bind_some]
    show (match (mkA n f).tmps[t]? with | some (.bool b) => some b | _ => none) = match cond (Nat.blt t n) (f t) undef with | .bool b => some b | _ => none
    rw [← mkA_getD n f t]
    by_cases hlt : t < (mkA n f).tmps.size
    · have hg : (mkA n f).tmps.getD t undef = (mkA n f).tmps[t] := by simp [Array.getD, hlt]
      rw [hg, Array.getElem?_eq_getElem hlt]
      cases (mkA n f).tmps[t] <;> rfl
    · have hg : (mkA n f).tmps.getD t undef = undef := by simp [Array.getD, hlt]
      rw [hg, Array.getElem?_eq_none (Nat.le_of_not_lt hlt)]
      rfl
theorem gy {dst : Option Tmp} {op : Op} {ty : TypeId} {pos : String} {after : Array Edge} {j : Nat} {b : Bool}
    (hy : yl n ops f j = some b) (h : WL P n ops Q (⟨dst, op, ty, pos, after, none⟩ :: rest) f w) :
    WL P n ops Q (⟨dst, op, ty, pos, after, some (j, b)⟩ :: rest) f w := by
  unfold WL at *
  unfold wpList at *
  have hw : Region.wanted ⟨dst, op, ty, pos, after, some (j, b)⟩ (yielded ops (mkA n f).tmps) = true := by
    simp [Region.wanted, yl_eq, hy]
  have hw' : Region.wanted ⟨dst, op, ty, pos, after, none⟩ (yielded ops (mkA n f).tmps) = true := rfl
  rw [if_pos hw]
  rw [if_pos hw'] at h
  exact h
theorem gn {dst : Option Tmp} {op : Op} {ty : TypeId} {pos : String} {after : Array Edge} {j : Nat} {b : Bool}
    (hy : yl n ops f j = some (!b)) (h : WL P n ops Q rest (updO f dst undef) w) :
    WL P n ops Q (⟨dst, op, ty, pos, after, some (j, b)⟩ :: rest) f w := by
  unfold WL at *
  unfold wpList
  have hw : ¬ Region.wanted ⟨dst, op, ty, pos, after, some (j, b)⟩ (yielded ops (mkA n f).tmps) = true := by
    simp [Region.wanted, yl_eq, hy]
  rw [if_neg hw]
  rw [mkA_put]; exact h
theorem gu {dst : Option Tmp} {op : Op} {ty : TypeId} {pos : String} {after : Array Edge} {j : Nat} {b : Bool}
    (hy : yl n ops f j = none) (h : WL P n ops Q rest (updO f dst undef) w) :
    WL P n ops Q (⟨dst, op, ty, pos, after, some (j, b)⟩ :: rest) f w := by
  unfold WL at *
  unfold wpList
  have hw : ¬ Region.wanted ⟨dst, op, ty, pos, after, some (j, b)⟩ (yielded ops (mkA n f).tmps) = true := by
    simp [Region.wanted, yl_eq, hy]
  rw [if_neg hw]
  rw [mkA_put]; exact h
theorem spl {l : List Oper} {t : Nat} {b : Bool} (hv : f t = .bool b) (h1 : b = true → WL P n ops Q l (upd f t (.bool true)) w)
    (h2 : b = false → WL P n ops Q l (upd f t (.bool false)) w) : WL P n ops Q l f w := by
  cases b
  · have := h2 rfl
    rw [upd_self hv] at this; exact this
  · have := h1 rfl
    rw [upd_self hv] at this; exact this
theorem splP {l : List Oper} {t : Nat} {p : Prop} [Decidable p] (hv : f t = .bool (decide p)) (h1 : p → WL P n ops Q l (upd f t (.bool true)) w)
    (h2 : ¬ p → WL P n ops Q l (upd f t (.bool false)) w) : WL P n ops Q l f w :=
  spl hv (fun h => h1 (of_decide_eq_true h)) (fun h => h2 (of_decide_eq_false h))
end
open Go
def St (P : Program) (n : Nat) (o : Oper) (f : Sl) (w : World) (v : Value) (w' : World) : Prop :=
  (execOp (ev n f) o).run P w = .ok (.value v) w'
def row (l : List Value) (t : TypeId) : Obj := .cells l.toArray t (0, 0)
section
variable {P : Program} {n : Nat} {Q : Po} {f : Sl} {w w' : World} {ops : Array Oper} {rest : List Oper}
  {dst : Option Tmp} {d : Nat} {ty : TypeId} {pos : String} {af : Array Edge} {g : Option (Nat × Bool)}
theorem vl {op : Op} {v : Value} (h : St P n ⟨some d, op, ty, pos, af, none⟩ f w v w') (hk : WL P n ops Q rest (upd f d v) w') :
    WL P n ops Q (⟨some d, op, ty, pos, af, none⟩ :: rest) f w := val rfl h hk
theorem mv {x : Operand} : St P n ⟨dst, .move x, ty, pos, af, g⟩ f w (ev n f x) w := rfl
theorem asg {x : Operand} : St P n ⟨dst, .assign x, ty, pos, af, g⟩ f w (ev n f x) w := rfl
theorem mvv {x : Operand} {v : Value} (hx : ev n f x = v) : St P n ⟨dst, .move x, ty, pos, af, g⟩ f w v w := by subst hx; rfl
theorem asv {x : Operand} {v : Value} (hx : ev n f x = v) : St P n ⟨dst, .assign x, ty, pos, af, g⟩ f w v w := by subst hx; rfl
theorem mI {x : Operand} {k : IntKind} {a : Int} (hx : ev n f x = .int k a) : St P n ⟨dst, .move x, ty, pos, af, g⟩ f w (.int k a) w := mvv hx
theorem mB {x : Operand} {b : Bool} (hx : ev n f x = .bool b) : St P n ⟨dst, .move x, ty, pos, af, g⟩ f w (.bool b) w := mvv hx
theorem aI {x : Operand} {k : IntKind} {a : Int} (hx : ev n f x = .int k a) : St P n ⟨dst, .assign x, ty, pos, af, g⟩ f w (.int k a) w := asv hx
theorem aB {x : Operand} {b : Bool} (hx : ev n f x = .bool b) : St P n ⟨dst, .assign x, ty, pos, af, g⟩ f w (.bool b) w := asv hx
theorem pk {c x y : Operand} {b : Bool} (hc : ev n f c = .bool b) : St P n ⟨dst, .pick c x y, ty, pos, af, g⟩ f w (cond b (ev n f x) (ev n f y)) w := by
  unfold St execOp
  simp only [hc, asBool]
  cases b <;> simp
/-! int arithmetic -/
section
variable {x y : Operand} {a b : Int} {k : IntKind} {T T' : TypeId}
theorem run_bin {op : BinOp} (hx : ev n f x = .int k a) (hy : ev n f y = .int k b) {v : Value}
    (h : (binOp op T (.int k a) (.int k b)).run P w = .ok v w) :
    St P n ⟨dst, .binOp op T x y T', ty, pos, af, g⟩ f w v w := by
  unfold St execOp
  simp only [hx, hy]
  have he : (eqGuard op T x y (.int k a) (.int k b)).run P w = .ok () w := by
    unfold eqGuard; cases op <;> simp
  simp [Sem.run_bind, he, h]
abbrev lo64 (z : Int) : Prop := -9223372036854775808 ≤ z
abbrev hi64 (z : Int) : Prop := z ≤ 9223372036854775807
theorem wrap64_in {z : Int} (h1 : lo64 z) (h2 : hi64 z) : IntKind.i64.wrap z = z := IntWalk.i64_in _ ⟨h1, h2⟩
theorem adw (hx : ev n f x = .int k a) (hy : ev n f y = .int k b) : St P n ⟨dst, .binOp .add T x y T', ty, pos, af, g⟩ f w (.int k (k.wrap (a + b))) w :=
  run_bin hx hy (by simp [binOp, Op.intArith])
theorem sbw (hx : ev n f x = .int k a) (hy : ev n f y = .int k b) : St P n ⟨dst, .binOp .sub T x y T', ty, pos, af, g⟩ f w (.int k (k.wrap (a - b))) w :=
  run_bin hx hy (by simp [binOp, Op.intArith])
theorem ad (hx : ev n f x = .int .i64 a) (hy : ev n f y = .int .i64 b) (h1 : lo64 (a + b) := by first | omega | (simp only; omega)) (h2 : hi64 (a + b) := by first | omega | (simp only; omega)) :
    St P n ⟨dst, .binOp .add T x y T', ty, pos, af, g⟩ f w (.int .i64 (a + b)) w := by
  have := adw (P := P) (n := n) (f := f) (w := w) (dst := dst) (ty := ty) (pos := pos) (af := af) (g := g) (T := T) (T' := T') hx hy
  rw [wrap64_in h1 h2] at this; exact this
theorem sb (hx : ev n f x = .int .i64 a) (hy : ev n f y = .int .i64 b) (h1 : lo64 (a - b) := by first | omega | (simp only; omega)) (h2 : hi64 (a - b) := by first | omega | (simp only; omega)) :
    St P n ⟨dst, .binOp .sub T x y T', ty, pos, af, g⟩ f w (.int .i64 (a - b)) w := by
  have := sbw (P := P) (n := n) (f := f) (w := w) (dst := dst) (ty := ty) (pos := pos) (af := af) (g := g) (T := T) (T' := T') hx hy
  rw [wrap64_in h1 h2] at this; exact this
theorem rm (hx : ev n f x = .int .i64 a) (hy : ev n f y = .int .i64 b) (h0 : 0 ≤ a := by first | omega | (simp only; omega)) (h2 : 0 < b := by first | omega | (simp only; omega)) :
    St P n ⟨dst, .binOp .rem T x y T', ty, pos, af, g⟩ f w (.int .i64 (a % b)) w := by
  refine run_bin hx hy ?_
  have hne : ¬ b = 0 := by omega
  simp [binOp, Op.intDiv, hne, Int.tmod_eq_emod_of_nonneg h0]
theorem eq (hx : ev n f x = .int k a) (hy : ev n f y = .int k b) : St P n ⟨dst, .binOp .eql T x y T', ty, pos, af, g⟩ f w (.bool (decide (a = b))) w :=
  run_bin hx hy (by simp [binOp, Op.intCmp]; exact (Bool.beq_eq_decide_eq a b))
theorem ne (hx : ev n f x = .int k a) (hy : ev n f y = .int k b) : St P n ⟨dst, .binOp .neq T x y T', ty, pos, af, g⟩ f w (.bool (decide (a ≠ b))) w :=
  run_bin hx hy (by simp [binOp, Op.intCmp]; by_cases h : a = b <;> simp [h])
theorem lt (hx : ev n f x = .int k a) (hy : ev n f y = .int k b) : St P n ⟨dst, .binOp .lss T x y T', ty, pos, af, g⟩ f w (.bool (decide (a < b))) w :=
  run_bin hx hy (by simp [binOp, Op.intCmp])
theorem le (hx : ev n f x = .int k a) (hy : ev n f y = .int k b) : St P n ⟨dst, .binOp .leq T x y T', ty, pos, af, g⟩ f w (.bool (decide (a ≤ b))) w :=
  run_bin hx hy (by simp [binOp, Op.intCmp])
theorem gt (hx : ev n f x = .int k a) (hy : ev n f y = .int k b) : St P n ⟨dst, .binOp .gtr T x y T', ty, pos, af, g⟩ f w (.bool (decide (b < a))) w :=
  run_bin hx hy (by simp [binOp, Op.intCmp])
theorem ge (hx : ev n f x = .int k a) (hy : ev n f y = .int k b) : St P n ⟨dst, .binOp .geq T x y T', ty, pos, af, g⟩ f w (.bool (decide (b ≤ a))) w :=
  run_bin hx hy (by simp [binOp, Op.intCmp])
theorem ntB {b : Bool} (hx : ev n f x = .bool b) : St P n ⟨dst, .unOp .not T x, ty, pos, af, g⟩ f w (.bool (!b)) w := by
  unfold St execOp; simp [hx, Op.unary]
theorem nt {p : Prop} [Decidable p] (hx : ev n f x = .bool (decide p)) : St P n ⟨dst, .unOp .not T x, ty, pos, af, g⟩ f w (.bool (decide (¬ p))) w := by
  unfold St execOp; simp [hx, Op.unary]
theorem neB {b c : Bool} (hT : P.underlying T = some .bool) (hx : ev n f x = .bool b) (hy : ev n f y = .bool c) : St P n ⟨dst, .binOp .neq T x y T', ty, pos, af, g⟩ f w (.bool (b != c)) w := by
  unfold St execOp
  simp [hx, hy, eqGuard, run_neq_bool w T b c hT]; cases b <;> cases c <;> rfl
end
/-! length -/
def SlLen (v : Value) (m : Nat) : Prop := ∃ a c, v = .slice a m c
theorem ln {x : Operand} {T ty' : TypeId} {E : TypeId} {v : Value} {m : Nat} (hT : P.underlying T = some (.slice E)) (hx : ev n f x = v) (hs : SlLen v m) :
    St P n ⟨dst, .call ⟨.builtin .len, #[x], #[T]⟩, ty', pos, af, g⟩ f w (.int .i64 (m : Int)) w := by
  obtain ⟨a, c, rfl⟩ := hs
  unfold St execOp
  simp [resolve, invoke, builtin, Builtin.len_, hx, run_underlying hT, goInt]
theorem ext {x : Operand} {i : Nat} {l : List Value} {v : Value} (hx : ev n f x = .tuple l.toArray) (hi : l[i]? = some v) :
    St P n ⟨dst, .extract x i, ty, pos, af, g⟩ f w v w := by
  unfold St execOp
  simp [hx, Instr.extract, hi]
theorem nc {x : Operand} {a : Addr} (hx : ev n f x = .pointer (some a)) : St P n ⟨dst, .nilCheck x, ty, pos, af, g⟩ f w (.pointer (some a)) w := by
  unfold St execOp
  simp [hx]
/-! calls -/
theorem cl {F : FuncId} {l : List Operand} {ts : Array TypeId} {vs : List Value} {R : Value → World → Prop} (hf : ∀ args w, (callFunc F args).run P w = .ok (.enter F args) w)
    (ha : l.map (ev n f) = vs) (hc : Ret P F vs.toArray w R)
    (h : ∀ v w', R v w' → WL P n ops Q rest (updO f dst v) w') :
    WL P n ops Q (⟨dst, .call ⟨.value (.func F), l.toArray, ts⟩, ty, pos, af, none⟩ :: rest) f w := by
  refine cal (F := F) (args := vs.toArray) (w' := w) (R := R) rfl ?_ hc h
  unfold execOp
  simp only [resolve, Deferred.ofValue, ev, Sem.run_bind, Sem.run_pure, Result.andThen_ok, invoke, List.map_toArray, ha, List.append_toArray, List.append_nil]
  exact hf _ _
end
end Go.Ro
