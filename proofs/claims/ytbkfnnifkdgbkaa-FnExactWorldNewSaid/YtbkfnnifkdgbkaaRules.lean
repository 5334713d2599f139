/- What single operations come to, over slots. Conditions: those that each row states. -/
import Derived.Test.YtbkfnnifkdgbkaaCore
namespace Go.Ro
open Go

/-- an operation that yields a value -/
def St (P : Program) (n : Nat) (o : Oper) (f : Sl) (w : World) (v : Value) (w' : World) : Prop :=
  (execOp (ev n f) o).run P w = .ok (.value v) w'

def row (l : List Value) (t : TypeId) : Obj := .cells l.toArray t (0, 0)

section
variable {P : Program} {n : Nat} {Q : Po} {f : Sl} {w w' : World} {ops : Array Oper} {rest : List Oper}
  {dst : Option Tmp} {d : Nat} {ty : TypeId} {pos : String} {af : Array Edge} {g : Option (Nat × Bool)}

theorem vl {op : Op} {v : Value} (h : St P n ⟨some d, op, ty, pos, af, none⟩ f w v w') (hk : WL P n ops Q rest (upd f d v) w') :
    WL P n ops Q (⟨some d, op, ty, pos, af, none⟩ :: rest) f w := val rfl h hk
theorem mv {x : Operand} : St P n ⟨dst, .move x, ty, pos, af, g⟩ f w (ev n f x) w := rfl
theorem asg {x : Operand} : St P n ⟨dst, .assign x, ty, pos, af, g⟩ f w (ev n f x) w := rfl
theorem mvv {x : Operand} {v : Value} (hx : ev n f x = v) : St P n ⟨dst, .move x, ty, pos, af, g⟩ f w v w := by subst hx; rfl
theorem asv {x : Operand} {v : Value} (hx : ev n f x = v) : St P n ⟨dst, .assign x, ty, pos, af, g⟩ f w v w := by subst hx; rfl
theorem mI {x : Operand} {k : IntKind} {a : Int} (hx : ev n f x = .int k a) : St P n ⟨dst, .move x, ty, pos, af, g⟩ f w (.int k a) w := mvv hx
theorem mB {x : Operand} {b : Bool} (hx : ev n f x = .bool b) : St P n ⟨dst, .move x, ty, pos, af, g⟩ f w (.bool b) w := mvv hx
theorem aI {x : Operand} {k : IntKind} {a : Int} (hx : ev n f x = .int k a) : St P n ⟨dst, .assign x, ty, pos, af, g⟩ f w (.int k a) w := asv hx
theorem aB {x : Operand} {b : Bool} (hx : ev n f x = .bool b) : St P n ⟨dst, .assign x, ty, pos, af, g⟩ f w (.bool b) w := asv hx
theorem pk {c x y : Operand} {b : Bool} (hc : ev n f c = .bool b) : St P n ⟨dst, .pick c x y, ty, pos, af, g⟩ f w (cond b (ev n f x) (ev n f y)) w := by
  unfold St execOp
  simp only [hc, asBool]
  cases b <;> simp

/-! int arithmetic -/
section
variable {x y : Operand} {a b : Int} {k : IntKind} {T T' : TypeId}

theorem run_bin {op : BinOp} (hx : ev n f x = .int k a) (hy : ev n f y = .int k b) {v : Value}
    (h : (binOp op T (.int k a) (.int k b)).run P w = .ok v w) :
    St P n ⟨dst, .binOp op T x y T', ty, pos, af, g⟩ f w v w := by
  unfold St execOp
  simp only [hx, hy]
  have he : (eqGuard op T x y (.int k a) (.int k b)).run P w = .ok () w := by
    unfold eqGuard; cases op <;> simp
  simp [Sem.run_bind, he, h]

abbrev lo64 (z : Int) : Prop := -9223372036854775808 ≤ z
abbrev hi64 (z : Int) : Prop := z ≤ 9223372036854775807

theorem wrap64_in {z : Int} (h1 : lo64 z) (h2 : hi64 z) : IntKind.i64.wrap z = z := IntWalk.i64_in _ ⟨h1, h2⟩

theorem adw (hx : ev n f x = .int k a) (hy : ev n f y = .int k b) : St P n ⟨dst, .binOp .add T x y T', ty, pos, af, g⟩ f w (.int k (k.wrap (a + b))) w :=
  run_bin hx hy (by simp [binOp, Op.intArith])
theorem sbw (hx : ev n f x = .int k a) (hy : ev n f y = .int k b) : St P n ⟨dst, .binOp .sub T x y T', ty, pos, af, g⟩ f w (.int k (k.wrap (a - b))) w :=
  run_bin hx hy (by simp [binOp, Op.intArith])
theorem ad (hx : ev n f x = .int .i64 a) (hy : ev n f y = .int .i64 b) (h1 : lo64 (a + b) := by first | omega | (simp only; omega)) (h2 : hi64 (a + b) := by first | omega | (simp only; omega)) :
    St P n ⟨dst, .binOp .add T x y T', ty, pos, af, g⟩ f w (.int .i64 (a + b)) w := by
  have := adw (P := P) (n := n) (f := f) (w := w) (dst := dst) (ty := ty) (pos := pos) (af := af) (g := g) (T := T) (T' := T') hx hy
  rw [wrap64_in h1 h2] at this; exact this
theorem sb (hx : ev n f x = .int .i64 a) (hy : ev n f y = .int .i64 b) (h1 : lo64 (a - b) := by first | omega | (simp only; omega)) (h2 : hi64 (a - b) := by first | omega | (simp only; omega)) :
    St P n ⟨dst, .binOp .sub T x y T', ty, pos, af, g⟩ f w (.int .i64 (a - b)) w := by
  have := sbw (P := P) (n := n) (f := f) (w := w) (dst := dst) (ty := ty) (pos := pos) (af := af) (g := g) (T := T) (T' := T') hx hy
  rw [wrap64_in h1 h2] at this; exact this
theorem rm (hx : ev n f x = .int .i64 a) (hy : ev n f y = .int .i64 b) (h0 : 0 ≤ a := by first | omega | (simp only; omega)) (h2 : 0 < b := by first | omega | (simp only; omega)) :
    St P n ⟨dst, .binOp .rem T x y T', ty, pos, af, g⟩ f w (.int .i64 (a % b)) w := by
  refine run_bin hx hy ?_
  have hne : ¬ b = 0 := by omega
  simp [binOp, Op.intDiv, hne, Int.tmod_eq_emod_of_nonneg h0]
theorem ne (hx : ev n f x = .int k a) (hy : ev n f y = .int k b) : St P n ⟨dst, .binOp .neq T x y T', ty, pos, af, g⟩ f w (.bool (decide (a ≠ b))) w :=
  run_bin hx hy (by simp [binOp, Op.intCmp]; by_cases h : a = b <;> simp [h])
theorem lt (hx : ev n f x = .int k a) (hy : ev n f y = .int k b) : St P n ⟨dst, .binOp .lss T x y T', ty, pos, af, g⟩ f w (.bool (decide (a < b))) w :=
  run_bin hx hy (by simp [binOp, Op.intCmp])
theorem le (hx : ev n f x = .int k a) (hy : ev n f y = .int k b) : St P n ⟨dst, .binOp .leq T x y T', ty, pos, af, g⟩ f w (.bool (decide (a ≤ b))) w :=
  run_bin hx hy (by simp [binOp, Op.intCmp])
theorem gt (hx : ev n f x = .int k a) (hy : ev n f y = .int k b) : St P n ⟨dst, .binOp .gtr T x y T', ty, pos, af, g⟩ f w (.bool (decide (b < a))) w :=
  run_bin hx hy (by simp [binOp, Op.intCmp])
theorem ge (hx : ev n f x = .int k a) (hy : ev n f y = .int k b) : St P n ⟨dst, .binOp .geq T x y T', ty, pos, af, g⟩ f w (.bool (decide (b ≤ a))) w :=
  run_bin hx hy (by simp [binOp, Op.intCmp])
theorem ntB {b : Bool} (hx : ev n f x = .bool b) : St P n ⟨dst, .unOp .not T x, ty, pos, af, g⟩ f w (.bool (!b)) w := by
  unfold St execOp; simp [hx, Op.unary]
theorem nt {p : Prop} [Decidable p] (hx : ev n f x = .bool (decide p)) : St P n ⟨dst, .unOp .not T x, ty, pos, af, g⟩ f w (.bool (decide (¬ p))) w := by
  unfold St execOp; simp [hx, Op.unary]
theorem neB {b c : Bool} (hT : P.underlying T = some .bool) (hx : ev n f x = .bool b) (hy : ev n f y = .bool c) : St P n ⟨dst, .binOp .neq T x y T', ty, pos, af, g⟩ f w (.bool (b != c)) w := by
  unfold St execOp
  simp [hx, hy, eqGuard, run_neq_bool w T b c hT]; cases b <;> cases c <;> rfl
end

/-! length -/
def SlLen (v : Value) (m : Nat) : Prop := ∃ a c, v = .slice a m c

theorem ln {x : Operand} {T ty' : TypeId} {E : TypeId} {v : Value} {m : Nat} (hT : P.underlying T = some (.slice E)) (hx : ev n f x = v) (hs : SlLen v m) :
    St P n ⟨dst, .call ⟨.builtin .len, #[x], #[T]⟩, ty', pos, af, g⟩ f w (.int .i64 (m : Int)) w := by
  obtain ⟨a, c, rfl⟩ := hs
  unfold St execOp
  simp [resolve, invoke, builtin, Builtin.len_, hx, run_underlying hT, goInt]
theorem ext {x : Operand} {i : Nat} {l : List Value} {v : Value} (hx : ev n f x = .tuple l.toArray) (hi : l[i]? = some v) :
    St P n ⟨dst, .extract x i, ty, pos, af, g⟩ f w v w := by
  unfold St execOp
  simp [hx, Instr.extract, hi]
theorem cl {F : FuncId} {l : List Operand} {ts : Array TypeId} {vs : List Value} {R : Value → World → Prop} (hf : ∀ args w, (callFunc F args).run P w = .ok (.enter F args) w)
    (ha : l.map (ev n f) = vs) (hc : Ret P F vs.toArray w R)
    (h : ∀ v w', R v w' → WL P n ops Q rest (updO f dst v) w') :
    WL P n ops Q (⟨dst, .call ⟨.value (.func F), l.toArray, ts⟩, ty, pos, af, none⟩ :: rest) f w := by
  refine cal (F := F) (args := vs.toArray) (w' := w) (R := R) rfl ?_ hc h
  unfold execOp
  simp only [resolve, Deferred.ofValue, ev, Sem.run_bind, Sem.run_pure, Result.andThen_ok, invoke, List.map_toArray, ha, List.append_toArray, List.append_nil]
  exact hf _ _
end
end Go.Ro
