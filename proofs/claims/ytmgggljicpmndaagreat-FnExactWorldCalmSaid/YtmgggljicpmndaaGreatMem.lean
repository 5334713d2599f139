/- What single operations come to, over slots. The memory of a walk: a view that no one writes any more, and a list of blocks that the walk owns. Conditions: those that each row states. -/
import Derived.Test.YtmgggljicpmndaaGreatCore
namespace Go.Ro
open Go
def St (P : Program) (n : Nat) (o : Oper) (f : Sl) (w : World) (v : Value) (w' : World) : Prop :=
  (execOp (ev n f) o).run P w = .ok (.value v) w'
def row (l : List Value) (t : TypeId) : Obj := .cells l.toArray t (0, 0)
section
variable {P : Program} {n : Nat} {Q : Po} {f : Sl} {w w' : World} {ops : Array Oper} {rest : List Oper}
  {dst : Option Tmp} {d : Nat} {ty : TypeId} {pos : String} {af : Array Edge} {g : Option (Nat × Bool)}
theorem vl {op : Op} {v : Value} (h : St P n ⟨some d, op, ty, pos, af, none⟩ f w v w') (hk : WL P n ops Q rest (upd f d v) w') :
    WL P n ops Q (⟨some d, op, ty, pos, af, none⟩ :: rest) f w := val rfl h hk
theorem mv {x : Operand} : St P n ⟨dst, .move x, ty, pos, af, g⟩ f w (ev n f x) w := rfl
theorem asg {x : Operand} : St P n ⟨dst, .assign x, ty, pos, af, g⟩ f w (ev n f x) w := rfl
theorem mvv {x : Operand} {v : Value} (hx : ev n f x = v) : St P n ⟨dst, .move x, ty, pos, af, g⟩ f w v w := by subst hx; rfl
theorem asv {x : Operand} {v : Value} (hx : ev n f x = v) : St P n ⟨dst, .assign x, ty, pos, af, g⟩ f w v w := by subst hx; rfl
theorem mI {x : Operand} {k : IntKind} {a : Int} (hx : ev n f x = .int k a) : St P n ⟨dst, .move x, ty, pos, af, g⟩ f w (.int k a) w := mvv hx
theorem mB {x : Operand} {b : Bool} (hx : ev n f x = .bool b) : St P n ⟨dst, .move x, ty, pos, af, g⟩ f w (.bool b) w := mvv hx
theorem aI {x : Operand} {k : IntKind} {a : Int} (hx : ev n f x = .int k a) : St P n ⟨dst, .assign x, ty, pos, af, g⟩ f w (.int k a) w := asv hx
theorem aB {x : Operand} {b : Bool} (hx : ev n f x = .bool b) : St P n ⟨dst, .assign x, ty, pos, af, g⟩ f w (.bool b) w := asv hx
theorem pk {c x y : Operand} {b : Bool} (hc : ev n f c = .bool b) : St P n ⟨dst, .pick c x y, ty, pos, af, g⟩ f w (cond b (ev n f x) (ev n f y)) w := by
  unfold St execOp
  simp only [hc, asBool]
  cases b <;> simp
/-! int arithmetic -/
section
variable {x y : Operand} {a b : Int} {k : IntKind} {T T' : TypeId}
theorem run_bin {op : BinOp} (hx : ev n f x = .int k a) (hy : ev n f y = .int k b) {v : Value}
    (h : (binOp op T (.int k a) (.int k b)).run P w = .ok v w) :
    St P n ⟨dst, .binOp op T x y T', ty, pos, af, g⟩ f w v w := by
  unfold St execOp
  simp only [hx, hy]
  have he : (eqGuard op T x y (.int k a) (.int k b)).run P w = .ok () w := by
    unfold eqGuard; cases op <;> simp
  simp [Sem.run_bind, he, h]
abbrev lo64 (z : Int) : Prop := -9223372036854775808 ≤ z
abbrev hi64 (z : Int) : Prop := z ≤ 9223372036854775807
theorem wrap64_in {z : Int} (h1 : lo64 z) (h2 : hi64 z) : IntKind.i64.wrap z = z := IntWalk.i64_in _ ⟨h1, h2⟩
theorem adw (hx : ev n f x = .int k a) (hy : ev n f y = .int k b) : St P n ⟨dst, .binOp .add T x y T', ty, pos, af, g⟩ f w (.int k (k.wrap (a + b))) w :=
  run_bin hx hy (by simp [binOp, Op.intArith])
theorem sbw (hx : ev n f x = .int k a) (hy : ev n f y = .int k b) : St P n ⟨dst, .binOp .sub T x y T', ty, pos, af, g⟩ f w (.int k (k.wrap (a - b))) w :=
  run_bin hx hy (by simp [binOp, Op.intArith])
theorem ad (hx : ev n f x = .int .i64 a) (hy : ev n f y = .int .i64 b) (h1 : lo64 (a + b) := by first | omega | (simp only; omega)) (h2 : hi64 (a + b) := by first | omega | (simp only; omega)) :
    St P n ⟨dst, .binOp .add T x y T', ty, pos, af, g⟩ f w (.int .i64 (a + b)) w := by
  have := adw (P := P) (n := n) (f := f) (w := w) (dst := dst) (ty := ty) (pos := pos) (af := af) (g := g) (T := T) (T' := T') hx hy
  rw [wrap64_in h1 h2] at this; exact this
theorem sb (hx : ev n f x = .int .i64 a) (hy : ev n f y = .int .i64 b) (h1 : lo64 (a - b) := by first | omega | (simp only; omega)) (h2 : hi64 (a - b) := by first | omega | (simp only; omega)) :
    St P n ⟨dst, .binOp .sub T x y T', ty, pos, af, g⟩ f w (.int .i64 (a - b)) w := by
  have := sbw (P := P) (n := n) (f := f) (w := w) (dst := dst) (ty := ty) (pos := pos) (af := af) (g := g) (T := T) (T' := T') hx hy
  rw [wrap64_in h1 h2] at this; exact this
theorem rm (hx : ev n f x = .int .i64 a) (hy : ev n f y = .int .i64 b) (h0 : 0 ≤ a := by first | omega | (simp only; omega)) (h2 : 0 < b := by first | omega | (simp only; omega)) :
    St P n ⟨dst, .binOp .rem T x y T', ty, pos, af, g⟩ f w (.int .i64 (a % b)) w := by
  refine run_bin hx hy ?_
  have hne : ¬ b = 0 := by omega
  simp [binOp, Op.intDiv, hne, Int.tmod_eq_emod_of_nonneg h0]
theorem eq (hx : ev n f x = .int k a) (hy : ev n f y = .int k b) : St P n ⟨dst, .binOp .eql T x y T', ty, pos, af, g⟩ f w (.bool (decide (a = b))) w :=
  run_bin hx hy (by simp [binOp, Op.intCmp]; exact (Bool.beq_eq_decide_eq a b))
theorem ne (hx : ev n f x = .int k a) (hy : ev n f y = .int k b) : St P n ⟨dst, .binOp .neq T x y T', ty, pos, af, g⟩ f w (.bool (decide (a ≠ b))) w :=
  run_bin hx hy (by simp [binOp, Op.intCmp]; by_cases h : a = b <;> simp [h])
theorem lt (hx : ev n f x = .int k a) (hy : ev n f y = .int k b) : St P n ⟨dst, .binOp .lss T x y T', ty, pos, af, g⟩ f w (.bool (decide (a < b))) w :=
  run_bin hx hy (by simp [binOp, Op.intCmp])
theorem le (hx : ev n f x = .int k a) (hy : ev n f y = .int k b) : St P n ⟨dst, .binOp .leq T x y T', ty, pos, af, g⟩ f w (.bool (decide (a ≤ b))) w :=
  run_bin hx hy (by simp [binOp, Op.intCmp])
theorem gt (hx : ev n f x = .int k a) (hy : ev n f y = .int k b) : St P n ⟨dst, .binOp .gtr T x y T', ty, pos, af, g⟩ f w (.bool (decide (b < a))) w :=
  run_bin hx hy (by simp [binOp, Op.intCmp])
theorem ge (hx : ev n f x = .int k a) (hy : ev n f y = .int k b) : St P n ⟨dst, .binOp .geq T x y T', ty, pos, af, g⟩ f w (.bool (decide (b ≤ a))) w :=
  run_bin hx hy (by simp [binOp, Op.intCmp])
theorem ntB {b : Bool} (hx : ev n f x = .bool b) : St P n ⟨dst, .unOp .not T x, ty, pos, af, g⟩ f w (.bool (!b)) w := by
  unfold St execOp; simp [hx, Op.unary]
theorem nt {p : Prop} [Decidable p] (hx : ev n f x = .bool (decide p)) : St P n ⟨dst, .unOp .not T x, ty, pos, af, g⟩ f w (.bool (decide (¬ p))) w := by
  unfold St execOp; simp [hx, Op.unary]
end
/-! length -/
def SlLen (v : Value) (m : Nat) : Prop := ∃ a c, v = .slice a m c
theorem ln {x : Operand} {T ty' : TypeId} {E : TypeId} {v : Value} {m : Nat} (hT : P.underlying T = some (.slice E)) (hx : ev n f x = v) (hs : SlLen v m) :
    St P n ⟨dst, .call ⟨.builtin .len, #[x], #[T]⟩, ty', pos, af, g⟩ f w (.int .i64 (m : Int)) w := by
  obtain ⟨a, c, rfl⟩ := hs
  unfold St execOp
  simp [resolve, invoke, builtin, Builtin.len_, hx, run_underlying hT, goInt]
theorem ext {x : Operand} {i : Nat} {l : List Value} {v : Value} (hx : ev n f x = .tuple l.toArray) (hi : l[i]? = some v) :
    St P n ⟨dst, .extract x i, ty, pos, af, g⟩ f w v w := by
  unfold St execOp
  simp [hx, Instr.extract, hi]
theorem nc {x : Operand} {a : Addr} (hx : ev n f x = .pointer (some a)) : St P n ⟨dst, .nilCheck x, ty, pos, af, g⟩ f w (.pointer (some a)) w := by
  unfold St execOp
  simp [hx]
/-! calls -/
theorem cl {F : FuncId} {l : List Operand} {ts : Array TypeId} {vs : List Value} {R : Value → World → Prop} (hf : ∀ args w, (callFunc F args).run P w = .ok (.enter F args) w)
    (ha : l.map (ev n f) = vs) (hc : Ret P F vs.toArray w R)
    (h : ∀ v w', R v w' → WL P n ops Q rest (updO f dst v) w') :
    WL P n ops Q (⟨dst, .call ⟨.value (.func F), l.toArray, ts⟩, ty, pos, af, none⟩ :: rest) f w := by
  refine cal (F := F) (args := vs.toArray) (w' := w) (R := R) rfl ?_ hc h
  unfold execOp
  simp only [resolve, Deferred.ofValue, ev, Sem.run_bind, Sem.run_pure, Result.andThen_ok, invoke, List.map_toArray, ha, List.append_toArray, List.append_nil]
  exact hf _ _
end
open Go
abbrev View := Nat → Option Obj
abbrev Own := List (Nat × Obj)
structure K (e w : World) (G : View) (L : Own) : Prop where
  tape : w.tape = e.tape
  os : w.os = e.os
  out : w.output = e.output
  view : ∀ b o, G b = some o → w.heap[b]? = some o
  own : ∀ b o, (b, o) ∈ L → w.heap[b]? = some o
  sep : ∀ b o, (b, o) ∈ L → G b = none
  nodup : (L.map (·.1)).Nodup
def VLe (G G' : View) : Prop := ∀ b o, G b = some o → G' b = some o
theorem VLe.refl (G : View) : VLe G G := fun _ _ h => h
theorem VLe.trans {A B C : View} (h : VLe A B) (h' : VLe B C) : VLe A C := fun b o x => h' b o (h b o x)
def cellV (G : View) (a : Addr) : Option Value :=
  match G a.block with
  | some (.cells c _ _) => if a.spot.isSome then none else c[a.off]?
  | _ => none
theorem cellV.mono {G G' : View} (h : VLe G G') {a : Addr} {v : Value} (hc : cellV G a = some v) : cellV G' a = some v := by
  unfold cellV at *
  cases hg : G a.block with
  | none => rw [hg] at hc; cases hc
  | some _ => rw [h _ _ hg]; rw [hg] at hc; exact hc
theorem K.cell {e w : World} {G : View} {L : Own} (hK : K e w G L) {a : Addr} {v : Value} (hc : cellV G a = some v) : w.cell? a = some v := by
  unfold cellV at hc
  unfold World.cell?
  cases hg : G a.block with
  | none => rw [hg] at hc; cases hc
  | some _ =>
    rw [hg] at hc
    rw [hK.view _ _ hg]
    exact hc
theorem row_cell {w : World} {b o : Nat} {l : List Value} {t : TypeId} (h : w.heap[b]? = some (row l t)) : w.cell? ⟨b, o, none⟩ = l[o]? := by
  simp [World.cell?, h, row]
theorem row_frozen {w : World} {a : Addr} {l : List Value} {t : TypeId} (h : w.heap[a.block]? = some (row l t)) : w.frozen? a = false := by
  simp [World.frozen?, h, row]
theorem lt_of_heap {w : World} {b : Nat} {o : Obj} (h : w.heap[b]? = some o) : b < w.heap.size := (Array.getElem?_eq_some_iff.1 h).1
section
variable {e w : World} {G : View} {L : Own}
theorem K.sub (hK : K e w G L) {L' : Own} (hs : ∀ x ∈ L', x ∈ L) (hn : (L'.map (·.1)).Nodup) : K e w G L' :=
  ⟨hK.tape, hK.os, hK.out, hK.view, fun b o h => hK.own b o (hs _ h), fun b o h => hK.sep b o (hs _ h), hn⟩
theorem K.perm (hK : K e w G L) {L' : Own} (h : L'.Perm L) : K e w G L' :=
  hK.sub (fun _ hx => h.mem_iff.1 hx) ((h.map _).nodup_iff.2 hK.nodup)
theorem K.dropL {A : Own} (hK : K e w G (A ++ L)) : K e w G L :=
  hK.sub (fun _ h => List.mem_append_right _ h) (by have := hK.nodup; rw [List.map_append] at this; exact (List.nodup_append.1 this).2.1)
theorem K.drop1 {x : Nat × Obj} (hK : K e w G (x :: L)) : K e w G L := K.dropL (A := [x]) hK
theorem K.dropR {A : Own} (hK : K e w G (L ++ A)) : K e w G L :=
  hK.sub (fun _ h => List.mem_append_left _ h) (by have := hK.nodup; rw [List.map_append] at this; exact (List.nodup_append.1 this).1)
theorem K.swap {A B : Own} (hK : K e w G (A ++ B)) : K e w G (B ++ A) := hK.perm List.perm_append_comm
theorem K.mid {A B C : Own} (hK : K e w G (A ++ (B ++ C))) : K e w G (B ++ (A ++ C)) :=
  hK.perm (by rw [← List.append_assoc, ← List.append_assoc]; exact List.Perm.append_right _ List.perm_append_comm)
theorem K.mid1 {x : Nat × Obj} {B C : Own} (hK : K e w G (x :: (B ++ C))) : K e w G (B ++ x :: C) := K.mid (A := [x]) hK
theorem K.back1 {x : Nat × Obj} {B C : Own} (hK : K e w G (B ++ x :: C)) : K e w G (x :: (B ++ C)) := K.mid (B := [x]) (A := B) hK
theorem K.own_lt (hK : K e w G L) {b : Nat} {o : Obj} (h : (b, o) ∈ L) : b < w.heap.size := lt_of_heap (hK.own b o h)
theorem K.view_lt (hK : K e w G L) {b : Nat} {o : Obj} (h : G b = some o) : b < w.heap.size := lt_of_heap (hK.view b o h)
theorem K.drawn (hK : K e w G L) (k : Nat) : K e { w with drawn := k } G L := ⟨hK.tape, hK.os, hK.out, hK.view, hK.own, hK.sep, hK.nodup⟩
theorem K.alloc (hK : K e w G L) (o : Obj) : K e (w.alloc o) G ((w.heap.size, o) :: L) := by
  have old : ∀ (b : Nat) (x : Obj), w.heap[b]? = some x → (w.alloc o).heap[b]? = some x := fun b x h => by rw [← h]; show (w.heap.push o)[b]? = w.heap[b]?; rw [Array.getElem?_push, if_neg (Nat.ne_of_lt (lt_of_heap h))]
  refine ⟨hK.tape, hK.os, hK.out, fun b x h => old b x (hK.view b x h), ?_, ?_, ?_⟩
  · intro b x h
    rcases List.mem_cons.1 h with h | h
    · cases h; exact heap_alloc_new w o
    · exact old b x (hK.own b x h)
  · intro b x h
    rcases List.mem_cons.1 h with h | h
    · cases h
      cases hg : G w.heap.size with
      | none => rfl
      | some y => exact absurd (hK.view_lt hg) (Nat.lt_irrefl _)
    · exact hK.sep b x h
  · rw [List.map_cons, List.nodup_cons]
    refine ⟨?_, hK.nodup⟩
    intro h
    obtain ⟨⟨b, x⟩, hm, hb⟩ := List.mem_map.1 h
    have := hK.own_lt hm
    simp only at hb
    omega
theorem K.write {b : Nat} {o o' : Obj} (hK : K e w G ((b, o) :: L)) {w' : World} (ht : w'.tape = w.tape) (hos : w'.os = w.os) (hout : w'.output = w.output)
    (hb : w'.heap[b]? = some o') (hne : ∀ k, k ≠ b → ∀ x, w.heap[k]? = some x → w'.heap[k]? = some x) : K e w' G ((b, o') :: L) := by
  have hnd := hK.nodup
  rw [List.map_cons, List.nodup_cons] at hnd
  have hgb : G b = none := hK.sep b o (List.mem_cons_self ..)
  refine ⟨ht.trans hK.tape, hos.trans hK.os, hout.trans hK.out, ?_, ?_, ?_, ?_⟩
  · intro k x h
    refine hne k ?_ x (hK.view k x h)
    rintro rfl; rw [hgb] at h; cases h
  · intro k x h
    rcases List.mem_cons.1 h with h | h
    · cases h; exact hb
    · refine hne k ?_ x (hK.own k x (List.mem_cons_of_mem _ h))
      intro hkb
      have h3 := List.mem_map_of_mem (f := fun x : Nat × Obj => x.1) h
      rw [hkb] at h3; exact hnd.1 h3
  · intro k x h
    rcases List.mem_cons.1 h with h | h
    · cases h; exact hgb
    · exact hK.sep k x (List.mem_cons_of_mem _ h)
  · rw [List.map_cons, List.nodup_cons]; exact hnd
def addV (G : View) (A : Own) : View := fun b => match A.find? (fun x => x.1 == b) with | some x => some x.2 | none => G b
theorem K.pub {A : Own} (hK : K e w G (A ++ L)) : K e w (addV G A) L := by
  refine ⟨hK.tape, hK.os, hK.out, ?_, fun b o h => hK.own b o (List.mem_append_right _ h), ?_, hK.dropL.nodup⟩
  · intro b o h
    unfold addV at h
    cases hf : A.find? (fun x => x.1 == b) with
    | none => rw [hf] at h; exact hK.view b o h
    | some x =>
      rw [hf] at h
      cases h
      have h1 := List.mem_of_find?_eq_some hf
      have h2 := List.find?_some hf
      simp only [beq_iff_eq] at h2
      subst h2
      exact hK.own _ _ (List.mem_append_left _ h1)
  · intro b o h
    unfold addV
    cases hf : A.find? (fun x => x.1 == b) with
    | none => exact hK.sep b o (List.mem_append_right _ h)
    | some x =>
      exfalso
      have h1 := List.mem_of_find?_eq_some hf
      have h2 := List.find?_some hf
      simp only [beq_iff_eq] at h2
      have hn := hK.nodup
      rw [List.map_append, List.nodup_append] at hn
      exact hn.2.2 _ (List.mem_map_of_mem (f := (·.1)) h1) _ (List.mem_map_of_mem (f := (·.1)) h) h2
theorem K.addV_le {A : Own} (hK : K e w G (A ++ L)) : VLe G (addV G A) := by
  intro b o h
  unfold addV
  cases hf : A.find? (fun x => x.1 == b) with
  | none => exact h
  | some x =>
    exfalso
    have h1 := List.mem_of_find?_eq_some hf
    have h2 := List.find?_some hf
    simp only [beq_iff_eq] at h2
    have := hK.sep x.1 x.2 (List.mem_append_left _ h1)
    rw [h2, h] at this; cases this
def none_ : View := fun _ => none
theorem find_own : ∀ {A : Own} {b : Nat} {o : Obj}, (A.map (·.1)).Nodup → (b, o) ∈ A → A.find? (fun x => x.1 == b) = some (b, o)
  | [], b, o, _, h => by cases h
  | x :: A, b, o, hn, h => by
    rw [List.map_cons, List.nodup_cons] at hn
    rcases List.mem_cons.1 h with h | h
    · subst h; simp
    · have hne : x.1 ≠ b := by
        rintro rfl; exact hn.1 (List.mem_map_of_mem (f := (·.1)) h)
      rw [List.find?_cons_of_neg (by simpa using hne)]
      exact find_own hn.2 h
theorem addV_mem {A : Own} {G : View} {b : Nat} {o : Obj} (hn : (A.map (·.1)).Nodup) (h : (b, o) ∈ A) : addV G A b = some o := by
  unfold addV; rw [find_own hn h]
end
end Go.Ro
