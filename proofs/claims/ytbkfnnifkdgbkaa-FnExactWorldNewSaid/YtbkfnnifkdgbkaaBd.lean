/- A struct that is put together by value. Conditions: those that each row states. -/
import Derived.Test.YtbkfnnifkdgbkaaWr
namespace Go.Ro
open Go

def plc (P : Program) (T : TypeId) : Option (List (Nat × Nat)) :=
  match P.underlying T with
  | some (.struct fs) => fs.toList.mapM fun f => (P.info? f.type).map fun i => (f.offset, i.size)
  | _ => none

theorem run_plc {P : Program} (w : World) : ∀ (fs : List Field) (pl : List (Nat × Nat)), fs.mapM (fun f => (P.info? f.type).map fun i => (f.offset, i.size)) = some pl →
    (fs.mapM (fun f => do pure (f.offset, ← sizeOf f.type) : Field → Sem (Nat × Nat))).run P w = .ok pl w
  | [], pl, h => by simp at h; subst h; simp
  | f :: fs, pl, h => by
    rw [List.mapM_cons] at h
    cases hi : P.info? f.type with
    | none => simp [hi] at h
    | some i =>
      cases hr : fs.mapM (fun f => (P.info? f.type).map fun i => (f.offset, i.size)) with
      | none => simp [hi, hr] at h
      | some pl' =>
        have ih := run_plc w fs pl' hr
        simp [hi, hr] at h
        subst h
        rw [List.mapM_cons]
        simp only [Sem.run_bind, sizeOf, typeInfo, run_program, hi, Sem.run_pure, Result.andThen_ok] at ih ⊢
        rw [ih]; rfl

def fillP (pl : List (Nat × Nat)) : List Value → List (Nat × List Value) → Option (List Value)
  | l, [] => some l
  | l, (i, cs) :: r =>
    match pl[i]? with
    | some (off, sz) => cond (Nat.beq cs.length sz && Nat.ble (off + cs.length) l.length) (fillP pl (l.take off ++ cs ++ l.drop (off + cs.length)) r) none
    | none => none

def Parts (ρ : Operand → Value) : List (Nat × Operand) → List (Nat × List Value) → Prop
  | [], [] => True
  | (i, x) :: xs, (j, cs) :: vs => (i = j ∧ (ρ x).cells = cs.toArray) ∧ Parts ρ xs vs
  | _, _ => False

theorem one_cells {v : Value} (h : one v = true) : v.cells = [v].toArray := by cases v <;> first | rfl | (simp [one] at h)

theorem splice_fold : ∀ (cs l : List Value) (off k : Nat), off + k + cs.length ≤ l.length →
    (cs.zipIdx k).foldl (fun (a : Array Value) (x : Value × Nat) => a.setIfInBounds (off + x.2) x.1) l.toArray = (l.take (off + k) ++ cs ++ l.drop (off + k + cs.length)).toArray
  | [], l, off, k, _ => by simp
  | c :: cs, l, off, k, h => by
    simp only [List.length_cons] at h
    rw [List.zipIdx_cons, List.foldl_cons]
    have hs : l.toArray.setIfInBounds (off + k) c = (l.set (off + k) c).toArray := by simp
    simp only [hs]
    rw [splice_fold cs (l.set (off + k) c) off (k + 1) (by rw [List.length_set]; omega)]
    congr 1
    rw [show off + (k + 1) = off + k + 1 by omega, List.take_succ_eq_append_getElem (by rw [List.length_set]; omega), List.getElem_set_self, List.take_set_of_le (Nat.le_refl _), List.drop_set_of_lt (by omega)]
    simp only [List.append_assoc, List.length_cons, List.cons_append, List.nil_append]
    rw [show off + k + 1 + cs.length = off + k + (cs.length + 1) by omega]

theorem fill_eq {ρ : Operand → Value} {pl : List (Nat × Nat)} : ∀ (xs : List (Nat × Operand)) (vs : List (Nat × List Value)) (l cells : List Value), Parts ρ xs vs → fillP pl l vs = some cells →
    Instr.fill (pl.toArray[·]?) l.toArray (xs.map fun p => (p.1, ρ p.2)) = some cells.toArray
  | [], [], l, cells, _, h => by simp [fillP] at h; subst h; rfl
  | [], _ :: _, _, _, h, _ => h.elim
  | _ :: _, [], _, _, h, _ => h.elim
  | (i, x) :: xs, (j, cs) :: vs, l, cells, ⟨⟨hij, hc⟩, hp⟩, h => by
    subst hij
    unfold fillP at h
    simp only [List.map_cons, Instr.fill, hc]
    have hg : pl.toArray[i]? = pl[i]? := by simp
    rw [hg]
    cases hpl : pl[i]? with
    | none => rw [hpl] at h; cases h
    | some q =>
      obtain ⟨off, sz⟩ := q
      rw [hpl] at h
      simp only at h ⊢
      cases hb : (Nat.beq cs.length sz && Nat.ble (off + cs.length) l.length) with
      | false => rw [hb] at h; cases h
      | true =>
        rw [hb] at h
        simp only [Bool.and_eq_true] at hb
        have h1 : cs.length = sz := Nat.eq_of_beq_eq_true hb.1
        have h2 : off + cs.length ≤ l.length := Nat.le_of_ble_eq_true hb.2
        rw [if_neg (by simp; omega)]
        have hsp := splice_fold cs l off 0 (by omega)
        simp only [Nat.add_zero] at hsp
        have hz : cs.toArray.zipIdx = (cs.zipIdx 0).toArray := by simp
        have hf : cs.toArray.zipIdx.foldl (fun cs x => match x with | (c, j) => cs.setIfInBounds (off + j) c) l.toArray = (l.take off ++ cs ++ l.drop (off + cs.length)).toArray := by
          rw [hz, ← hsp, List.foldl_toArray]
        rw [hf]
        exact fill_eq xs vs _ cells hp h

section
variable {P : Program} {n : Nat} {f : Sl} {w : World} {dst : Option Tmp} {ty : TypeId} {pos : String} {af : Array Edge} {g : Option (Nat × Bool)}

theorem bd {T sz by' : Nat} {z : Value} {zl : List Value} {pl : List (Nat × Nat)} {xs : List (Nat × Operand)} (vs : List (Nat × List Value)) {cells : List Value} (hp : plc P T = some pl) (hi : Inf P T z sz by')
    (hz : z.cells = zl.toArray) (hvs : Parts (ev n f) xs vs) (hl : fillP pl zl vs = some cells) :
    St P n ⟨dst, .build T xs.toArray, ty, pos, af, g⟩ f w (.agg cells.toArray) w := by
  obtain ⟨i, g1, g2, _, _⟩ := hi.get
  unfold plc at hp
  cases hu : P.underlying T with
  | none => rw [hu] at hp; cases hp
  | some d =>
    rw [hu] at hp
    cases d with
    | struct fs =>
      simp only at hp
      have hm : (fs.mapM (fun f => do pure (f.offset, ← sizeOf f.type) : Field → Sem (Nat × Nat))).run P w = .ok pl.toArray w := by
        have := run_plc (P := P) w fs.toList pl hp
        rw [Array.mapM_eq_mapM_toList]
        have hb : ∀ m : Sem (List (Nat × Nat)), (List.toArray <$> m : Sem (Array (Nat × Nat))) = (m >>= fun x => pure x.toArray) := fun _ => rfl
        rw [hb, Sem.run_bind, this]; rfl
      unfold St execOp
      have hf := fill_eq (ρ := ev n f) xs vs zl cells hvs hl
      have hmap : (xs.toArray.map fun x => match x with | (i, x) => (i, ev n f x)).toList = xs.map fun p => (p.1, ev n f p.2) := by simp
      have hzv : (zeroValue T).run P w = .ok z w := by simp [zeroValue, typeInfo, g1, g2]
      simp only [Instr.build, Sem.run_bind, hzv, Result.andThen_ok, run_underlying hu w, hm, hz, hmap, hf]
      simp
    | _ => simp at hp

end
end Go.Ro
