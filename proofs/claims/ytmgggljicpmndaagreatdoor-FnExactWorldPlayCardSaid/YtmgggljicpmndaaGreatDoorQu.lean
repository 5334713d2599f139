/- The memory of a walk: a view that no one writes any more, and a list of blocks that the walk owns. Slices and variables in the memory of a walk: what they hold, and the operations that read and write them. Regions that draw their order and only read: one walk in the order of the text. Conditions: those that each row states. -/
import Derived.Test.YtmgggljicpmndaaGreatDoorRules
import Derived.Deep.Quiet
namespace Go.Ro
open Go
abbrev View := Nat → Option Obj
abbrev Own := List (Nat × Obj)
structure K (e w : World) (G : View) (L : Own) : Prop where
  tape : w.tape = e.tape
  os : w.os = e.os
  out : w.output = e.output
  view : ∀ b o, G b = some o → w.heap[b]? = some o
  own : ∀ b o, (b, o) ∈ L → w.heap[b]? = some o
  sep : ∀ b o, (b, o) ∈ L → G b = none
  nodup : (L.map (·.1)).Nodup
def VLe (G G' : View) : Prop := ∀ b o, G b = some o → G' b = some o
theorem VLe.refl (G : View) : VLe G G := fun _ _ h => h
theorem VLe.trans {A B C : View} (h : VLe A B) (h' : VLe B C) : VLe A C := fun b o x => h' b o (h b o x)
def cellV (G : View) (a : Addr) : Option Value :=
  match G a.block with
  | some (.cells c _ _) => if a.spot.isSome then none else c[a.off]?
  | _ => none
theorem cellV.mono {G G' : View} (h : VLe G G') {a : Addr} {v : Value} (hc : cellV G a = some v) : cellV G' a = some v := by
  unfold cellV at *
  cases hg : G a.block with
  | none => rw [hg] at hc; cases hc
  | some _ => rw [h _ _ hg]; rw [hg] at hc; exact hc
theorem K.cell {e w : World} {G : View} {L : Own} (hK : K e w G L) {a : Addr} {v : Value} (hc : cellV G a = some v) : w.cell? a = some v := by
  unfold cellV at hc
  unfold World.cell?
  cases hg : G a.block with
  | none => rw [hg] at hc; cases hc
  | some _ =>
    rw [hg] at hc
    rw [hK.view _ _ hg]
    exact hc
theorem row_cell {w : World} {b o : Nat} {l : List Value} {t : TypeId} (h : w.heap[b]? = some (row l t)) : w.cell? ⟨b, o, none⟩ = l[o]? := by
  simp [World.cell?, h, row]
theorem row_frozen {w : World} {a : Addr} {l : List Value} {t : TypeId} (h : w.heap[a.block]? = some (row l t)) : w.frozen? a = false := by
  simp [World.frozen?, h, row]
theorem lt_of_heap {w : World} {b : Nat} {o : Obj} (h : w.heap[b]? = some o) : b < w.heap.size := (Array.getElem?_eq_some_iff.1 h).1
section
variable {e w : World} {G : View} {L : Own}
theorem K.sub (hK : K e w G L) {L' : Own} (hs : ∀ x ∈ L', x ∈ L) (hn : (L'.map (·.1)).Nodup) : K e w G L' :=
  ⟨hK.tape, hK.os, hK.out, hK.view, fun b o h => hK.own b o (hs _ h), fun b o h => hK.sep b o (hs _ h), hn⟩
theorem K.perm (hK : K e w G L) {L' : Own} (h : L'.Perm L) : K e w G L' :=
  hK.sub (fun _ hx => h.mem_iff.1 hx) ((h.map _).nodup_iff.2 hK.nodup)
theorem K.dropL {A : Own} (hK : K e w G (A ++ L)) : K e w G L :=
  hK.sub (fun _ h => List.mem_append_right _ h) (by have := hK.nodup; rw [List.map_append] at this; exact (List.nodup_append.1 this).2.1)
theorem K.drop1 {x : Nat × Obj} (hK : K e w G (x :: L)) : K e w G L := K.dropL (A := [x]) hK
theorem K.dropR {A : Own} (hK : K e w G (L ++ A)) : K e w G L :=
  hK.sub (fun _ h => List.mem_append_left _ h) (by have := hK.nodup; rw [List.map_append] at this; exact (List.nodup_append.1 this).1)
theorem K.swap {A B : Own} (hK : K e w G (A ++ B)) : K e w G (B ++ A) := hK.perm List.perm_append_comm
theorem K.mid {A B C : Own} (hK : K e w G (A ++ (B ++ C))) : K e w G (B ++ (A ++ C)) :=
  hK.perm (by rw [← List.append_assoc, ← List.append_assoc]; exact List.Perm.append_right _ List.perm_append_comm)
theorem K.mid1 {x : Nat × Obj} {B C : Own} (hK : K e w G (x :: (B ++ C))) : K e w G (B ++ x :: C) := K.mid (A := [x]) hK
theorem K.back1 {x : Nat × Obj} {B C : Own} (hK : K e w G (B ++ x :: C)) : K e w G (x :: (B ++ C)) := K.mid (B := [x]) (A := B) hK
theorem K.own_lt (hK : K e w G L) {b : Nat} {o : Obj} (h : (b, o) ∈ L) : b < w.heap.size := lt_of_heap (hK.own b o h)
theorem K.view_lt (hK : K e w G L) {b : Nat} {o : Obj} (h : G b = some o) : b < w.heap.size := lt_of_heap (hK.view b o h)
theorem K.drawn (hK : K e w G L) (k : Nat) : K e { w with drawn := k } G L := ⟨hK.tape, hK.os, hK.out, hK.view, hK.own, hK.sep, hK.nodup⟩
theorem K.alloc (hK : K e w G L) (o : Obj) : K e (w.alloc o) G ((w.heap.size, o) :: L) := by
  have old : ∀ (b : Nat) (x : Obj), w.heap[b]? = some x → (w.alloc o).heap[b]? = some x := fun b x h => by rw [← h]; show (w.heap.push o)[b]? = w.heap[b]?; rw [Array.getElem?_push, if_neg (Nat.ne_of_lt (lt_of_heap h))]
  refine ⟨hK.tape, hK.os, hK.out, fun b x h => old b x (hK.view b x h), ?_, ?_, ?_⟩
  · intro b x h
    rcases List.mem_cons.1 h with h | h
    · cases h; exact heap_alloc_new w o
    · exact old b x (hK.own b x h)
  · intro b x h
    rcases List.mem_cons.1 h with h | h
    · cases h
      cases hg : G w.heap.size with
      | none => rfl
      | some y => exact absurd (hK.view_lt hg) (Nat.lt_irrefl _)
    · exact hK.sep b x h
  · rw [List.map_cons, List.nodup_cons]
    refine ⟨?_, hK.nodup⟩
    intro h
    obtain ⟨⟨b, x⟩, hm, hb⟩ := List.mem_map.1 h
    have := hK.own_lt hm
    simp only at hb
    omega
theorem K.write {b : Nat} {o o' : Obj} (hK : K e w G ((b, o) :: L)) {w' : World} (ht : w'.tape = w.tape) (hos : w'.os = w.os) (hout : w'.output = w.output)
    (hb : w'.heap[b]? = some o') (hne : ∀ k, k ≠ b → ∀ x, w.heap[k]? = some x → w'.heap[k]? = some x) : K e w' G ((b, o') :: L) := by
  have hnd := hK.nodup
  rw [List.map_cons, List.nodup_cons] at hnd
  have hgb : G b = none := hK.sep b o (List.mem_cons_self ..)
  refine ⟨ht.trans hK.tape, hos.trans hK.os, hout.trans hK.out, ?_, ?_, ?_, ?_⟩
  · intro k x h
    refine hne k ?_ x (hK.view k x h)
    rintro rfl; rw [hgb] at h; cases h
  · intro k x h
    rcases List.mem_cons.1 h with h | h
    · cases h; exact hb
    · refine hne k ?_ x (hK.own k x (List.mem_cons_of_mem _ h))
      intro hkb
      have h3 := List.mem_map_of_mem (f := fun x : Nat × Obj => x.1) h
      rw [hkb] at h3; exact hnd.1 h3
  · intro k x h
    rcases List.mem_cons.1 h with h | h
    · cases h; exact hgb
    · exact hK.sep k x (List.mem_cons_of_mem _ h)
  · rw [List.map_cons, List.nodup_cons]; exact hnd
def addV (G : View) (A : Own) : View := fun b => match A.find? (fun x => x.1 == b) with | some x => some x.2 | none => G b
theorem K.pub {A : Own} (hK : K e w G (A ++ L)) : K e w (addV G A) L := by
  refine ⟨hK.tape, hK.os, hK.out, ?_, fun b o h => hK.own b o (List.mem_append_right _ h), ?_, hK.dropL.nodup⟩
  · intro b o h
    unfold addV at h
    cases hf : A.find? (fun x => x.1 == b) with
    | none => rw [hf] at h; exact hK.view b o h
    | some x =>
      rw [hf] at h
      cases h
      have h1 := List.mem_of_find?_eq_some hf
      have h2 := List.find?_some hf
      simp only [beq_iff_eq] at h2
      subst h2
      exact hK.own _ _ (List.mem_append_left _ h1)
  · intro b o h
    unfold addV
    cases hf : A.find? (fun x => x.1 == b) with
    | none => exact hK.sep b o (List.mem_append_right _ h)
    | some x =>
      exfalso
      have h1 := List.mem_of_find?_eq_some hf
      have h2 := List.find?_some hf
      simp only [beq_iff_eq] at h2
      have hn := hK.nodup
      rw [List.map_append, List.nodup_append] at hn
      exact hn.2.2 _ (List.mem_map_of_mem (f := (·.1)) h1) _ (List.mem_map_of_mem (f := (·.1)) h) h2
theorem K.addV_le {A : Own} (hK : K e w G (A ++ L)) : VLe G (addV G A) := by
  intro b o h
  unfold addV
  cases hf : A.find? (fun x => x.1 == b) with
  | none => exact h
  | some x =>
    exfalso
    have h1 := List.mem_of_find?_eq_some hf
    have h2 := List.find?_some hf
    simp only [beq_iff_eq] at h2
    have := hK.sep x.1 x.2 (List.mem_append_left _ h1)
    rw [h2, h] at this; cases this
def none_ : View := fun _ => none
theorem find_own : ∀ {A : Own} {b : Nat} {o : Obj}, (A.map (·.1)).Nodup → (b, o) ∈ A → A.find? (fun x => x.1 == b) = some (b, o)
  | [], b, o, _, h => by cases h
  | x :: A, b, o, hn, h => by
    rw [List.map_cons, List.nodup_cons] at hn
    rcases List.mem_cons.1 h with h | h
    · subst h; simp
    · have hne : x.1 ≠ b := by
        rintro rfl; exact hn.1 (List.mem_map_of_mem (f := (·.1)) h)
      rw [List.find?_cons_of_neg (by simpa using hne)]
      exact find_own hn.2 h
theorem addV_mem {A : Own} {G : View} {b : Nat} {o : Obj} (hn : (A.map (·.1)).Nodup) (h : (b, o) ∈ A) : addV G A b = some o := by
  unfold addV; rw [find_own hn h]
end
open Go
/-! types, as closed facts -/
def OneC (P : Program) (T : TypeId) : Prop := ∃ d, P.underlying T = some d ∧ (match d with | .struct _ | .array _ _ => true | _ => false) = false
def AggC (P : Program) (T : TypeId) : Prop := ∃ d, P.underlying T = some d ∧ (match d with | .struct _ | .array _ _ => true | _ => false) = true
def Inf (P : Program) (T : TypeId) (z : Value) (sz bytes : Nat) : Prop := (P.info? T).map (fun i => (i.zero, i.size, i.bytes)) = some (some z, sz, bytes)
theorem Inf.get {P : Program} {T : TypeId} {z : Value} {sz bytes : Nat} (h : Inf P T z sz bytes) : ∃ i, P.info? T = some i ∧ i.zero = some z ∧ i.size = sz ∧ i.bytes = bytes := by
  unfold Inf at h
  cases hi : P.info? T with
  | none => rw [hi] at h; cases h
  | some i =>
    rw [hi] at h
    simp only [Option.map_some, Option.some.injEq, Prod.mk.injEq] at h
    exact ⟨i, rfl, h.1, h.2.1, h.2.2⟩
theorem run_isAgg_one {P : Program} {T : TypeId} (h : OneC P T) (w : World) : (isAgg T).run P w = .ok false w := by
  obtain ⟨d, hu, hd⟩ := h
  unfold isAgg
  rw [Sem.run_bind, run_underlying hu w]
  cases d <;> simp_all
theorem run_isAgg_agg {P : Program} {T : TypeId} (h : AggC P T) (w : World) : (isAgg T).run P w = .ok true w := by
  obtain ⟨d, hu, hd⟩ := h
  unfold isAgg
  rw [Sem.run_bind, run_underlying hu w]
  cases d <;> simp_all
/-! slices -/
def SlW (v : Value) (m : Nat) : Prop := ∃ a c, v = .slice a m c ∧ m ≤ c ∧ c ≤ maxLen ∧ (m = 0 ∨ ∃ b o, a = some ⟨b, o, none⟩)
theorem SlW.len {v : Value} {m : Nat} (h : SlW v m) : SlLen v m := let ⟨a, c, e, _⟩ := h; ⟨a, c, e⟩
theorem SlW.le {v : Value} {m : Nat} (h : SlW v m) : (m : Int) ≤ 9223372036854775807 := by
  obtain ⟨a, c, _, h1, h2, _⟩ := h
  unfold maxLen at h2; omega
def elA (v : Value) (k : Nat) : Addr := match v with | .slice (some a) _ _ => ⟨a.block, a.off + k, none⟩ | _ => ⟨0, 0, none⟩
def SlR {α : Type} (sz : Nat) (E : View → List Value → α → Prop) (G : View) (v : Value) (xs : List α) : Prop :=
  SlW v xs.length ∧ ∀ i x, xs[i]? = some x → ∃ cs, cs.length = sz ∧ (∀ j c, cs[j]? = some c → cellV G (elA v (i * sz + j)) = some c) ∧ E G cs x
section
variable {α : Type} {sz : Nat} {E : View → List Value → α → Prop} {G G' : View} {v : Value} {xs : List α}
theorem SlR.len (h : SlR sz E G v xs) : SlLen v xs.length := h.1.len
theorem SlR.le (h : SlR sz E G v xs) : (xs.length : Int) ≤ 9223372036854775807 := h.1.le
theorem SlR.get (h : SlR sz E G v xs) {i : Nat} (hi : i < xs.length) : ∃ cs, cs.length = sz ∧ (∀ j c, cs[j]? = some c → cellV G (elA v (i * sz + j)) = some c) ∧ E G cs xs[i] :=
  h.2 i xs[i] (List.getElem?_eq_getElem hi)
theorem SlR.mono (hE : ∀ cs x, E G cs x → E G' cs x) (h : SlR sz E G v xs) (hG : VLe G G') : SlR sz E G' v xs :=
  ⟨h.1, fun i x hx => let ⟨cs, h1, h2, h3⟩ := h.2 i x hx; ⟨cs, h1, fun j c hc => cellV.mono hG (h2 j c hc), hE _ _ h3⟩⟩
end
def EI (_ : View) (cs : List Value) (x : Int) : Prop := cs = [.int .i64 x]
abbrev IntS := SlR 1 EI
theorem IntS.mono {G G' : View} {v : Value} {xs : List Int} (h : IntS G v xs) (hG : VLe G G') : IntS G' v xs :=
  SlR.mono (G := G) (G' := G') (E := EI) (fun _ _ h => h) h hG
theorem IntS.at {G : View} {v : Value} {xs : List Int} (h : IntS G v xs) {i : Nat} (hi : i < xs.length) : cellV G (elA v i) = some (.int .i64 xs[i]) := by
  obtain ⟨cs, h1, h2, h3⟩ := h.get hi
  have h4 : cs = [.int .i64 xs[i]] := h3
  have := h2 0 (.int .i64 xs[i]) (by rw [h4]; rfl)
  simpa using this
theorem IntS.atI {G : View} {v : Value} {xs : List Int} (h : IntS G v xs) {j : Int} (h0 : 0 ≤ j) (h1 : j < xs.length) :
    cellV G (elA v j.toNat) = some (.int .i64 (xs.getD j.toNat 0)) := by
  have hi : j.toNat < xs.length := by omega
  rw [h.at hi]; simp [List.getD, hi]
section
variable {P : Program} {n : Nat} {Q : Po} {f : Sl} {w : World} {ops : Array Oper} {rest : List Oper}
  {dst : Option Tmp} {ty : TypeId} {pos : String} {af : Array Edge} {g : Option (Nat × Bool)} {e : World} {G : View} {L : Own}
theorem ix {T E' sz : Nat} {x i : Operand} {v : Value} {m : Nat} {k : IntKind} {j : Int} (hT : P.underlying T = some (.slice E')) (hE : (P.info? E').map (·.size) = some sz)
    (hx : ev n f x = v) (hs : SlW v m) (hi : ev n f i = .int k j) (h0 : 0 ≤ j) (h1 : j < m) :
    St P n ⟨dst, .indexAddr T x i, ty, pos, af, g⟩ f w (.pointer (some (elA v (j.toNat * sz)))) w := by
  obtain ⟨a, c, rfl, _, _, hb⟩ := hs
  obtain ⟨b, o, rfl⟩ : ∃ b o, a = some ⟨b, o, none⟩ := by
    rcases hb with hb | hb
    · omega
    · exact hb
  cases hq : P.info? E' with
  | none => rw [hq] at hE; cases hE
  | some q =>
    have hsz : q.size = sz := by simpa [hq] using hE
    unfold St execOp
    have hadd : (⟨b, o, none⟩ : Addr).add (j.toNat * sz) = ⟨b, o + j.toNat * sz, none⟩ := by
      unfold Addr.add
      split
      · rename_i h; rw [h]; rfl
      · rfl
    simp [hx, hi, Instr.indexAt, asIntOf, run_underlying hT, h0, h1, sizeOf, typeInfo, hq, hsz, hadd, elA]
theorem ixn {T E' sz : Nat} {x i : Operand} {v : Value} {m : Nat} {k : IntKind} {j : Nat} (hT : P.underlying T = some (.slice E')) (hE : (P.info? E').map (·.size) = some sz)
    (hx : ev n f x = v) (hs : SlW v m) (hi : ev n f i = .int k (j : Int)) (h1 : j < m) :
    St P n ⟨dst, .indexAddr T x i, ty, pos, af, g⟩ f w (.pointer (some (elA v (j * sz)))) w := by
  have := ix (P := P) (n := n) (f := f) (w := w) (dst := dst) (ty := ty) (pos := pos) (af := af) (g := g) hT hE hx hs hi (by omega) (by omega)
  simpa using this
theorem ix1 {T E' : Nat} {x i : Operand} {v : Value} {m : Nat} {k : IntKind} {j : Int} (hT : P.underlying T = some (.slice E')) (hE : (P.info? E').map (·.size) = some 1)
    (hx : ev n f x = v) (hs : SlW v m) (hi : ev n f i = .int k j) (h0 : 0 ≤ j) (h1 : j < m) :
    St P n ⟨dst, .indexAddr T x i, ty, pos, af, g⟩ f w (.pointer (some (elA v j.toNat))) w := by
  have := ix (P := P) (n := n) (f := f) (w := w) (dst := dst) (ty := ty) (pos := pos) (af := af) (g := g) hT hE hx hs hi h0 h1
  simpa using this
theorem ixn1 {T E' : Nat} {x i : Operand} {v : Value} {m : Nat} {k : IntKind} {j : Nat} (hT : P.underlying T = some (.slice E')) (hE : (P.info? E').map (·.size) = some 1)
    (hx : ev n f x = v) (hs : SlW v m) (hi : ev n f i = .int k (j : Int)) (h1 : j < m) :
    St P n ⟨dst, .indexAddr T x i, ty, pos, af, g⟩ f w (.pointer (some (elA v j))) w := by
  have := ixn (P := P) (n := n) (f := f) (w := w) (dst := dst) (ty := ty) (pos := pos) (af := af) (g := g) hT hE hx hs hi h1
  simpa using this
theorem fa {S k : Nat} {x : Operand} {b o : Nat} {fs : Array Field} {fl : Field} (hS : P.underlying S = some (.struct fs)) (hk : fs[k]? = some fl)
    (hz : (P.info? fl.type).map (fun i => i.size == 0) = some false) (hx : ev n f x = .pointer (some ⟨b, o, none⟩)) :
    St P n ⟨dst, .fieldAddr S x k, ty, pos, af, g⟩ f w (.pointer (some ⟨b, o + fl.offset, none⟩)) w := by
  cases hq : P.info? fl.type with
  | none => rw [hq] at hz; cases hz
  | some q =>
    have hsz : ¬ q.size = 0 := by simpa [hq] using hz
    unfold St execOp
    have hadd : (⟨b, o, none⟩ : Addr).add fl.offset = ⟨b, o + fl.offset, none⟩ := by
      unfold Addr.add
      split
      · rename_i h; rw [h]; rfl
      · rfl
    simp [hx, Instr.fieldAt, run_underlying hS, hk, Instr.sureAddr, fieldPlace, sizeOf, typeInfo, hq, hsz, hadd]
theorem run_load_one {T : TypeId} (h : OneC P T) {a : Addr} {v : Value} (hc : w.cell? a = some v) : (Instr.loadAt T (.pointer (some a))).run P w = .ok v w := by
  simp [Instr.loadAt, Instr.sureAddr, loadVar, run_isAgg_one h, load, Sem.run, hc]
theorem ldC {T : Nat} {x : Operand} {a : Addr} {v : Value} (h1 : OneC P T) (hp : ev n f x = .pointer (some a)) (hc : w.cell? a = some v) :
    St P n ⟨dst, .load T x, ty, pos, af, g⟩ f w v w := by
  unfold St execOp
  simp [hp, run_load_one h1 hc]
theorem ldV {T : Nat} {x : Operand} {a : Addr} {v : Value} (hK : K e w G L) (h1 : OneC P T) (hp : ev n f x = .pointer (some a)) (hc : cellV G a = some v) :
    St P n ⟨dst, .load T x, ty, pos, af, g⟩ f w v w := ldC h1 hp (hK.cell hc)
theorem ldO {T : Nat} {x : Operand} {b o t : Nat} {cs : List Value} {v : Value} (hK : K e w G L) (h1 : OneC P T) (k : Nat) (hn : L[k]? = some (b, row cs t))
    (hp : ev n f x = .pointer (some ⟨b, o, none⟩)) (hc : cs[o]? = some v) : St P n ⟨dst, .load T x, ty, pos, af, g⟩ f w v w :=
  ldC h1 hp (by rw [row_cell (hK.own _ _ (List.mem_of_getElem? hn))]; exact hc)
theorem run_load_agg {T sz : Nat} (h : AggC P T) (hs : (P.info? T).map (·.size) = some sz) {b o : Nat} {cs : List Value} (hl : cs.length = sz)
    (hc : ∀ j c, cs[j]? = some c → w.cell? ⟨b, o + j, none⟩ = some c) : (Instr.loadAt T (.pointer (some ⟨b, o, none⟩))).run P w = .ok (.agg cs.toArray) w := by
  cases hq : P.info? T with
  | none => rw [hq] at hs; cases hs
  | some q =>
    have hsz : q.size = cs.length := by rw [hl]; simpa [hq] using hs
    have hl := run_loadCells_list (P := P) w ⟨b, o, none⟩ cs (fun j v hv => by
      have hadd : (⟨b, o, none⟩ : Addr).add j = ⟨b, o + j, none⟩ := by
        unfold Addr.add
        split
        · rename_i h; rw [h]; rfl
        · rfl
      rw [hadd]; exact hc j v hv)
    simp [Instr.loadAt, Instr.sureAddr, loadVar, run_isAgg_agg h, sizeOf, typeInfo, hq, hsz, hl]
theorem lsC {T sz : Nat} {x : Operand} {b o : Nat} {cs : List Value} (h1 : AggC P T) (hs : (P.info? T).map (·.size) = some sz) (hp : ev n f x = .pointer (some ⟨b, o, none⟩))
    (hl : cs.length = sz) (hc : ∀ j c, cs[j]? = some c → w.cell? ⟨b, o + j, none⟩ = some c) : St P n ⟨dst, .load T x, ty, pos, af, g⟩ f w (.agg cs.toArray) w := by
  unfold St execOp
  simp [hp, run_load_agg h1 hs hl hc]
theorem lsO {T sz : Nat} {x : Operand} {b t : Nat} {cs : List Value} (hK : K e w G L) (h1 : AggC P T) (hs : (P.info? T).map (·.size) = some sz) (k : Nat) (hn : L[k]? = some (b, row cs t))
    (hp : ev n f x = .pointer (some ⟨b, 0, none⟩)) (hl : cs.length = sz) : St P n ⟨dst, .load T x, ty, pos, af, g⟩ f w (.agg cs.toArray) w :=
  lsC h1 hs hp hl fun j c hj => by rw [Nat.zero_add, row_cell (hK.own _ _ (List.mem_of_getElem? hn))]; exact hj
theorem elA_mk (v : Value) (a : Nat) : elA v a = ⟨(elA v a).block, (elA v a).off, none⟩ := by
  unfold elA; split <;> rfl
theorem elA_add {v : Value} {m : Nat} (h : SlW v m) (hm : 0 < m) (a b : Nat) : (⟨(elA v a).block, (elA v a).off + b, none⟩ : Addr) = elA v (a + b) := by
  obtain ⟨s, c, rfl, _, _, h4⟩ := h
  rcases h4 with h4 | ⟨b', o', rfl⟩
  · omega
  · simp [elA, Nat.add_assoc]
theorem lsV {T sz : Nat} {x : Operand} {v : Value} {m k : Nat} {cs : List Value} (hK : K e w G L) (h1 : AggC P T) (hs : (P.info? T).map (·.size) = some sz)
    (hp : ev n f x = .pointer (some (elA v k))) (hw : SlW v m) (hm : 0 < m) (hl : cs.length = sz) (hc : ∀ j c, cs[j]? = some c → cellV G (elA v (k + j)) = some c) :
    St P n ⟨dst, .load T x, ty, pos, af, g⟩ f w (.agg cs.toArray) w := by
  rw [elA_mk] at hp
  exact lsC h1 hs hp hl fun j c hj => by rw [elA_add hw hm]; exact hK.cell (hc j c hj)
end
open Go
section
variable {P : Program} {n : Nat} {Q : Po} {f : Sl} {w : World} {ops : Array Oper} {rest : List Oper}
  {dst : Option Tmp} {d : Nat} {ty : TypeId} {pos : String} {af : Array Edge} {C : World → Prop} {R : Sl → Prop}
def WQ (P : Program) (n : Nat) (ops : Array Oper) (C : World → Prop) (R : Sl → Prop) (l : List Oper) (f : Sl) : Prop :=
  wpQuiet P ops C (fun a => ∃ g, a = mkA n g ∧ R g) l (mkA n f)
theorem wpQuiet_mono {Q Q' : Act → Prop} (hq : ∀ a, Q a → Q' a) : ∀ (l : List Oper) (a : Act), wpQuiet P ops C Q l a → wpQuiet P ops C Q' l a := by
  intro l
  induction l with
  | nil => intro a h; exact hq a h
  | cons o l ih =>
    intro a h
    unfold wpQuiet at h ⊢
    split
    · rename_i hw
      rw [if_pos hw] at h
      obtain ⟨v, h1, h2⟩ := h
      exact ⟨v, h1, ih _ h2⟩
    · rename_i hw
      rw [if_neg hw] at h
      exact ih _ h
theorem rgq {id : Nat} {l : List Oper} (C : World → Prop) (hm : P.follows .mixedOrders = true) (hB : Region.lexB .any l.toArray = true) (hC : C { w with drawn := w.drawn + 1 })
    (h : WQ P n l.toArray C (fun g => ∀ w', C w' → Q .normal g w') l f) : W P n (.region id l.toArray true) Q f w := by
  refine wp_region_quiet (C := C) hm hB hC ?_
  have h' : wpQuiet P l.toArray C (fun a => ∃ g, a = mkA n g ∧ ∀ w', C w' → Q .normal g w') l (mkA n f) := h
  have := wpQuiet_mono (Q' := fun a' => ∀ w', C w' → lift n Q .normal a' w') (fun a ⟨g, ha, hq⟩ w' hw' => ⟨g, ha, hq w' hw'⟩) l _ h'
  simpa using this
theorem qn (h : R f) : WQ P n ops C R [] f := ⟨f, rfl, h⟩
theorem qval {o : Oper} {v : Value} (hg : o.guard = none) (hrun : ∀ w, C w → St P n o f w v w) (h : WQ P n ops C R rest (updO f o.dst v)) : WQ P n ops C R (o :: rest) f := by
  unfold WQ at *
  unfold wpQuiet
  rw [if_pos (by simp [Region.wanted, hg])]
  refine ⟨v, fun w hw => ?_, ?_⟩
  · unfold Oper.quietAt
    rw [mkA_evalF, show (execOp (ev n f) o).run P w = .ok (.value v) w from hrun w hw]
    exact ⟨rfl, rfl⟩
  · rw [mkA_put]; exact h
theorem qv {op : Op} {v : Value} (hrun : ∀ w, C w → St P n ⟨some d, op, ty, pos, af, none⟩ f w v w) (h : WQ P n ops C R rest (upd f d v)) :
    WQ P n ops C R (⟨some d, op, ty, pos, af, none⟩ :: rest) f := qval rfl hrun h
theorem qcl {F : FuncId} {l : List Operand} {ts : Array TypeId} {vs : List Value} {v : Value} (hf : ∀ args w, (callFunc F args).run P w = .ok (.enter F args) w)
    (ha : l.map (ev n f) = vs) (hc : ∀ w, C w → Ret P F vs.toArray w (fun r w' => r = v ∧ C w'))
    (h : WQ P n ops C R rest (updO f dst v)) : WQ P n ops C R (⟨dst, .call ⟨.value (.func F), l.toArray, ts⟩, ty, pos, af, none⟩ :: rest) f := by
  unfold WQ at *
  unfold wpQuiet
  rw [if_pos (by simp [Region.wanted])]
  refine ⟨v, fun w hw => ?_, ?_⟩
  · unfold Oper.quietAt
    rw [mkA_evalF]
    have hrun : (execOp (ev n f) ⟨dst, .call ⟨.value (.func F), l.toArray, ts⟩, ty, pos, af, none⟩).run P w = .ok (.enter F vs.toArray) w := by
      unfold execOp
      simp only [resolve, Deferred.ofValue, ev, Sem.run_bind, Sem.run_pure, Result.andThen_ok, invoke, List.map_toArray, ha, List.append_toArray, List.append_nil]
      exact hf _ _
    rw [hrun]
    refine ⟨rfl, Calls.mono (hc w hw) ?_⟩
    rintro e w' ⟨v', he, hv, hC⟩
    subst hv; exact ⟨he, hC⟩
  · rw [mkA_put]; exact h
theorem qgy {op : Op} {j : Nat} {b : Bool} (hy : yl n ops f j = some b) (h : WQ P n ops C R (⟨dst, op, ty, pos, af, none⟩ :: rest) f) :
    WQ P n ops C R (⟨dst, op, ty, pos, af, some (j, b)⟩ :: rest) f := by
  unfold WQ at *
  unfold wpQuiet at *
  have hw : Region.wanted ⟨dst, op, ty, pos, af, some (j, b)⟩ (yielded ops (mkA n f).tmps) = true := by simp [Region.wanted, yl_eq, hy]
  have hw' : Region.wanted ⟨dst, op, ty, pos, af, none⟩ (yielded ops (mkA n f).tmps) = true := rfl
  rw [if_pos hw]
  rw [if_pos hw'] at h
  exact h
theorem qgn {op : Op} {j : Nat} {b : Bool} (hy : yl n ops f j = some (!b)) (h : WQ P n ops C R rest (updO f dst undef)) :
    WQ P n ops C R (⟨dst, op, ty, pos, af, some (j, b)⟩ :: rest) f := by
  unfold WQ at *
  unfold wpQuiet
  have hw : ¬ Region.wanted ⟨dst, op, ty, pos, af, some (j, b)⟩ (yielded ops (mkA n f).tmps) = true := by simp [Region.wanted, yl_eq, hy]
  rw [if_neg hw, mkA_put]; exact h
theorem qgu {op : Op} {j : Nat} {b : Bool} (hy : yl n ops f j = none) (h : WQ P n ops C R rest (updO f dst undef)) :
    WQ P n ops C R (⟨dst, op, ty, pos, af, some (j, b)⟩ :: rest) f := by
  unfold WQ at *
  unfold wpQuiet
  have hw : ¬ Region.wanted ⟨dst, op, ty, pos, af, some (j, b)⟩ (yielded ops (mkA n f).tmps) = true := by simp [Region.wanted, yl_eq, hy]
  rw [if_neg hw, mkA_put]; exact h
theorem qspl {l : List Oper} {t : Nat} {b : Bool} (hv : f t = .bool b) (h1 : b = true → WQ P n ops C R l (upd f t (.bool true)))
    (h2 : b = false → WQ P n ops C R l (upd f t (.bool false))) : WQ P n ops C R l f := by
  cases b
  · have := h2 rfl
    rw [upd_self hv] at this; exact this
  · have := h1 rfl
    rw [upd_self hv] at this; exact this
theorem qsplP {l : List Oper} {t : Nat} {p : Prop} [Decidable p] (hv : f t = .bool (decide p)) (h1 : p → WQ P n ops C R l (upd f t (.bool true)))
    (h2 : ¬ p → WQ P n ops C R l (upd f t (.bool false))) : WQ P n ops C R l f :=
  qspl hv (fun h => h1 (of_decide_eq_true h)) (fun h => h2 (of_decide_eq_false h))
/-! conversions and shifts -/
theorem cv {S D : Nat} {x : Operand} {a : Int} {k : IntKind} {ds : TypeDesc} (hS : P.underlying S = some ds) (hD : P.underlying D = some (.int .i64)) (hx : ev n f x = .int k a)
    (h1 : lo64 a) (h2 : hi64 a) {g : Option (Nat × Bool)} : St P n ⟨dst, .convert S D x, ty, pos, af, g⟩ f w (.int .i64 a) w := by
  unfold St execOp
  simp only [hx, convert, Sem.run_bind, run_underlying hS w, run_underlying hD w, Result.andThen_ok]
  cases ds <;> simp [Conv.intToInt, wrap64_in h1 h2]
end
end Go.Ro
