/- Maps from int to int, made by the walk itself. Conditions: those that each row states. -/
import Derived.Test.YtlpefeeadeocgaaMk
namespace Go.Ro
open Go

def ups : List (Int × Int) → Int → Int → List (Int × Int)
  | [], k, v => [(k, v)]
  | (a, b) :: l, k, v => if a = k then (k, v) :: l else (a, b) :: ups l k v
def lkI : List (Int × Int) → Int → Option Int
  | [], _ => none
  | (a, b) :: l, k => if a = k then some b else lkI l k
theorem lkI_ups (l : List (Int × Int)) (k v j : Int) : lkI (ups l k v) j = if j = k then some v else lkI l j := by
  induction l with
  | nil => simp only [ups, lkI]; by_cases h : k = j <;> simp [h]; intro h'; exact absurd h'.symm h
  | cons p l ih =>
    obtain ⟨a, b⟩ := p
    unfold ups
    by_cases h : a = k
    · subst h
      rw [if_pos rfl]
      simp only [lkI]
      by_cases h' : a = j
      · subst h'; simp
      · rw [if_neg h', if_neg h', if_neg (fun e => h' e.symm)]
    · rw [if_neg h]
      simp only [lkI]
      by_cases h' : a = j
      · subst h'; simp [h]
      · rw [if_neg h', if_neg h', ih]

def enE (p : Int × Int) : Value × Value := (.int .i64 p.1, .int .i64 p.2)
def MI (o : Obj) (l : List (Int × Int)) : Prop := ∃ es c, o = .map es c ∧ es.toList.map (fun e => (e.key, e.val)) = l.map enE

theorem MI.nil : MI (.map #[] 0) [] := ⟨_, _, rfl, rfl⟩

theorem findNow_int : ∀ (es : List MapEntry) (l : List (Int × Int)) (k : Int) (i : Nat), es.map (fun e => (e.key, e.val)) = l.map enE →
    (lkI l k = none ∧ Instr.findNow (.int .i64) (.int .i64 k) es i = some none) ∨
    (∃ j v, lkI l k = some v ∧ j < es.length ∧ Instr.findNow (.int .i64) (.int .i64 k) es i = some (some (i + j, .int .i64 v)) ∧ (es[j]?.map (·.key)) = some (.int .i64 k) ∧
      ∀ u (e' : MapEntry → MapEntry), (∀ x, (e' x).key = .int .i64 k ∧ (e' x).val = .int .i64 u) → (es.modify j e').map (fun e => (e.key, e.val)) = (ups l k u).map enE)
  | [], [], k, i, _ => .inl ⟨rfl, rfl⟩
  | [], _ :: _, _, _, h => by simp at h
  | _ :: _, [], _, _, h => by simp at h
  | e :: es, (a, b) :: l, k, i, h => by
    simp only [List.map_cons, List.cons.injEq, enE, Prod.mk.injEq] at h
    obtain ⟨⟨hk, hv⟩, hr⟩ := h
    have hs : Instr.sameNow (.int .i64) (.int .i64 k) e.key = some (k == a) := by rw [hk]; simp [Instr.sameNow]
    by_cases hak : a = k
    · subst hak
      right
      refine ⟨0, b, by simp [lkI], by simp, ?_, by simp [hk], ?_⟩
      · simp [Instr.findNow, hs, hv]
      · intro u e' he'
        simp [ups, enE, (he' e).1, (he' e).2]
        exact hr
    · have hs' : Instr.sameNow (.int .i64) (.int .i64 k) e.key = some false := by rw [hs]; simp; exact fun h => hak h.symm
      rcases findNow_int es l k (i + 1) hr with ⟨h1, h2⟩ | ⟨j, v, h1, h2, h3, h4, h5⟩
      · left; exact ⟨by simp [lkI, hak, h1], by simp [Instr.findNow, hs', h2]⟩
      · right
        refine ⟨j + 1, v, by simp [lkI, hak, h1], by simp; exact h2, ?_, by simpa using h4, ?_⟩
        · simp only [Instr.findNow, hs', h3]; congr 3; omega
        · intro u e' he'
          have := h5 u e' he'
          simp [ups, hak, enE, hk, hv] at this ⊢
          exact this

section
variable {P : Program} {n : Nat} {Q : Po} {f : Sl} {w : World} {ops : Array Oper} {rest : List Oper}
  {d : Nat} {dst : Option Tmp} {ty : TypeId} {pos : String} {af : Array Edge} {g : Option (Nat × Bool)} {e : World} {G : View} {L : Own}

theorem mkm {T : Nat} (hK : K e w G L) (h : ∀ b w1, K e w1 G ((b, .map #[] 0) :: L) → WL P n ops Q rest (upd f d (.map (some b))) w1) :
    WL P n ops Q (⟨some d, .makeMap T none, ty, pos, af, none⟩ :: rest) f w := by
  refine vl ?_ (h w.heap.size (w.alloc (.map #[] 0)) (hK.alloc _))
  unfold St execOp
  simp [Instr.makeMap]

theorem run_getObj_map {b : Nat} {es : Array MapEntry} {c : Nat} (hb : w.heap[b]? = some (.map es c)) : (getObj b).run P w = .ok (.map es c) w := by
  simp [getObj, Sem.run, hb]
theorem run_checkKey {KT : Nat} {kk : Int} {emp : Bool} (hKT : P.underlying KT = some (.int .i64)) (w : World) : (Instr.checkKey emp 10000 KT (.int .i64 kk)).run P w = .ok () w := by
  rw [show (10000 : Nat) = 9999 + 1 from rfl, Instr.checkKey, Sem.run_bind, run_underlying hKT]
  rfl
theorem run_findKey {KT : Nat} {kk : Int} {es : List MapEntry} {r : Option (Nat × Value)} (hKT : P.underlying KT = some (.int .i64)) (hr : Instr.findNow (.int .i64) (.int .i64 kk) es 0 = some r) (w : World) :
    (Instr.findKey KT (.int .i64 kk) es).run P w = .ok r w := by
  simp [Instr.findKey, run_underlying hKT, hr]

theorem run_lookup {T KT ET b : Nat} {o : Obj} {l : List (Int × Int)} {kk : Int} {ok : Bool} (hK : K e w G L) (hT : P.underlying T = some (.map KT ET)) (hKT : P.underlying KT = some (.int .i64)) (hi : Inf P ET (.int .i64 0) 1 8)
    (hm : (b, o) ∈ L) (hl : MI o l) : (Instr.lookup T (.map (some b)) (.int .i64 kk) ok).run P w = .ok (cond ok (.tuple [.int .i64 ((lkI l kk).getD 0), .bool (lkI l kk).isSome].toArray) (.int .i64 ((lkI l kk).getD 0))) w := by
  obtain ⟨es, c, rfl, hes⟩ := hl
  obtain ⟨i, g1, g2, _, _⟩ := hi.get
  have hb := hK.own _ _ hm
  have hzv : (zeroValue ET).run P w = .ok (.int .i64 0) w := by simp [zeroValue, typeInfo, g1, g2]
  rcases findNow_int es.toList l kk 0 hes with ⟨h1, h2⟩ | ⟨j, v, h1, _, h3, _, _⟩
  · have hf := run_findKey (P := P) hKT h2 w
    simp only [Instr.lookup, Sem.run_bind, run_underlying hT w, Result.andThen_ok, run_getObj_map hb, Sem.run_pure, run_checkKey hKT, hf, hzv, h1]
    cases ok <;> simp
  · have hf := run_findKey (P := P) hKT h3 w
    simp only [Instr.lookup, Sem.run_bind, run_underlying hT w, Result.andThen_ok, run_getObj_map hb, Sem.run_pure, run_checkKey hKT, hf, h1]
    cases ok <;> simp

theorem lk {T KT ET b : Nat} {x y : Operand} {o : Obj} {l : List (Int × Int)} {kk : Int} (hK : K e w G L) (hT : P.underlying T = some (.map KT ET)) (hKT : P.underlying KT = some (.int .i64)) (hi : Inf P ET (.int .i64 0) 1 8)
    (hx : ev n f x = .map (some b)) (hy : ev n f y = .int .i64 kk) (k : Nat) (hn : L[k]? = some (b, o)) (hl : MI o l) :
    St P n ⟨dst, .lookup T x y false, ty, pos, af, g⟩ f w (.int .i64 ((lkI l kk).getD 0)) w := by
  unfold St execOp
  simp only [hx, hy, Sem.run_bind, run_lookup hK hT hKT hi (List.mem_of_getElem? hn) hl, Result.andThen_ok, Sem.run_pure]; rfl
theorem lkk {T KT ET b : Nat} {x y : Operand} {o : Obj} {l : List (Int × Int)} {kk : Int} (hK : K e w G L) (hT : P.underlying T = some (.map KT ET)) (hKT : P.underlying KT = some (.int .i64)) (hi : Inf P ET (.int .i64 0) 1 8)
    (hx : ev n f x = .map (some b)) (hy : ev n f y = .int .i64 kk) (k : Nat) (hn : L[k]? = some (b, o)) (hl : MI o l) :
    St P n ⟨dst, .lookup T x y true, ty, pos, af, g⟩ f w (.tuple [.int .i64 ((lkI l kk).getD 0), .bool (lkI l kk).isSome].toArray) w := by
  unfold St execOp
  simp only [hx, hy, Sem.run_bind, run_lookup hK hT hKT hi (List.mem_of_getElem? hn) hl, Result.andThen_ok, Sem.run_pure]; rfl

end
end Go.Ro
