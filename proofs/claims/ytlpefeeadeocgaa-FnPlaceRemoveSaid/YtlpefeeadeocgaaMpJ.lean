/- Maps from int to int whose entries are stamped: what the kit's own words say of them. Conditions: those that each row states. -/
import Derived.Test.YtlpefeeadeocgaaMp
import Derived.Test.YtlpefeeadeocgaaAp
import Derived.Lib.SlKeysI
namespace Go.Ro
open Go Go.MapKept Go.Maps Go.RowKit

def MJ (o : Obj) (l : List (Int × Int)) : Prop := ∃ es c, o = .map es c ∧ es.toList.map (fun e => (e.key, e.val)) = l.map enE ∧ Stamped es c
theorem MJ.mi {o : Obj} {l : List (Int × Int)} (h : MJ o l) : MI o l := let ⟨es, c, h1, h2, _⟩ := h; ⟨es, c, h1, h2⟩
theorem MJ.nil : MJ (.map #[] 0) [] := ⟨_, _, rfl, rfl, stamped_empty 0⟩

theorem lkI_none {l : List (Int × Int)} {k : Int} (h : lkI l k = none) : ∀ p ∈ l, p.1 ≠ k := by
  induction l with
  | nil => intro p hp; cases hp
  | cons x l ih =>
    obtain ⟨a, b⟩ := x
    unfold lkI at h
    split at h
    · cases h
    · rename_i hne
      intro p hp
      rcases List.mem_cons.1 hp with rfl | hp
      · exact hne
      · exact ih h p hp
theorem lkI_mem {l : List (Int × Int)} {k : Int} : (lkI l k).isSome = true ↔ k ∈ l.map (·.1) := by
  induction l with
  | nil => simp [lkI]
  | cons x l ih =>
    obtain ⟨a, b⟩ := x
    unfold lkI
    by_cases h : a = k
    · simp [h]
    · rw [if_neg h, ih]
      rw [List.map_cons, List.mem_cons]
      exact ⟨fun hm => .inr hm, fun hm => hm.resolve_left fun h' => h h'.symm⟩
theorem ups_new {l : List (Int × Int)} {k v : Int} (h : lkI l k = none) : ups l k v = l ++ [(k, v)] := by
  induction l with
  | nil => rfl
  | cons p l ih =>
    obtain ⟨a, b⟩ := p
    unfold lkI at h
    split at h
    · cases h
    · rename_i hne; simp [ups, hne, ih h]
theorem lkI_snoc {l : List (Int × Int)} {k v : Int} (h : lkI l k = none) (j : Int) : lkI (l ++ [(k, v)]) j = if j = k then some v else lkI l j := by
  rw [← ups_new h, lkI_ups]

section
variable {P : Program} {n : Nat} {Q : Po} {f : Sl} {w : World} {ops : Array Oper} {rest : List Oper}
  {dst : Option Tmp} {ty : TypeId} {pos : String} {af : Array Edge} {e : World} {G : View} {L : Own}

/-- a key that the map lacks is stored -/
theorem muN {T KT ET b : Nat} {x y z : Operand} {o : Obj} {l : List (Int × Int)} {kk vv : Int} (hK : K e w G L) (hT : P.underlying T = some (.map KT ET)) (hKT : P.underlying KT = some (.int .i64))
    (hx : ev n f x = .map (some b)) (hy : ev n f y = .int .i64 kk) (hz : ev n f z = .int .i64 vv) (k : Nat) (hn : L[k]? = some (b, o)) (hl : MJ o l) (hno : lkI l kk = none)
    (h : ∀ o' w1, MJ o' (l ++ [(kk, vv)]) → K e w1 G (L.set k (b, o')) → WL P n ops Q rest (updO f dst undef) w1) :
    WL P n ops Q (⟨dst, .mapUpdate T x y z, ty, pos, af, none⟩ :: rest) f w := by
  obtain ⟨es, c, rfl, hes, hst⟩ := hl
  have hK1 := hK.nth hn
  have hb := hK1.own _ _ (List.mem_cons_self ..)
  have key : ∀ o' : Obj, K e { w with heap := w.heap.setIfInBounds b o' } G (L.set k (b, o')) ∧ (setObj b o').run P w = .ok () { w with heap := w.heap.setIfInBounds b o' } := by
    intro o'
    refine ⟨(K.write (L := L.eraseIdx k) (o' := o') (w' := { w with heap := w.heap.setIfInBounds b o' }) hK1 rfl rfl rfl ?_ ?_).perm (set_perm hn), ?_⟩
    · have := lt_of_heap hb
      simp [this]
    · intro k' hk' x hx
      simp only []
      rw [Array.getElem?_setIfInBounds_ne (fun h => hk' h.symm)]; exact hx
    · simp [setObj, Sem.run, hb]
  have hck := run_checkKey (P := P) (kk := kk) (emp := false) hKT w
  rcases findNow_int es.toList l kk 0 hes with ⟨h1, h2⟩ | ⟨j, v, h1, hj, h3, h4, h5⟩
  · have hf := run_findKey (P := P) hKT h2 w
    obtain ⟨hK', hs⟩ := key (.map (es.push { key := .int .i64 kk, val := .int .i64 vv, born := c }) (c + 1))
    refine skp rfl ?_ (h _ _ ⟨_, _, rfl, ?_, ?_⟩ hK')
    · unfold execOp
      simp only [hx, hy, hz, Instr.mapUpdate, Sem.run_bind, run_underlying hT w, Result.andThen_ok, run_getObj_map hb, hck, hf, hs, Sem.run_pure]
    · simp [hes, enE]
    · refine stamped_push hst fun x hx he => ?_
      have hm : (x.key, x.val) ∈ l.map enE := by rw [← hes]; exact List.mem_map.2 ⟨x, hx, rfl⟩
      obtain ⟨p, hp, hpe⟩ := List.mem_map.1 hm
      have h6 : x.key = .int .i64 p.1 := by rw [enE] at hpe; exact (Prod.mk.inj hpe).1.symm
      rw [he] at h6
      have h7 : kk = p.1 := by simpa using h6
      exact lkI_none h1 p hp h7.symm
  · rw [hno] at h1; cases h1
end

/-- the kit's word for a map of the walk's own -/
theorem MJ.owns {P : Program} {k el b : Nat} {w : World} {o : Obj} {l : List (Int × Int)} (h : MJ o l) (hb : w.heap[b]? = some o) (hk : P.underlying k = some (.int .i64)) (he : P.underlying el = some (.int .i64))
    (hw : ∀ p ∈ l, (Lit.int .i64 p.1).wf = true ∧ (Lit.int .i64 p.2).wf = true) (hl : l.length ≤ 1000) :
    ∃ D : DataW Unit, w.ownsMap P k (plainElem P el) b l.length D ∧ (intKeys D).Perm (l.map (·.1)) ∧ Maps.size D = l.length := by
  obtain ⟨es, c, rfl, hes, hst⟩ := h
  have hlen : es.size = l.length := by have := congrArg List.length hes; simpa using this
  have hrd : ∀ x ∈ es.toList, ∃ p ∈ l, x.key = .int .i64 p.1 ∧ x.val = .int .i64 p.2 := fun x hx => by
    have hm : (x.key, x.val) ∈ l.map enE := by rw [← hes]; exact List.mem_map.2 ⟨x, hx, rfl⟩
    obtain ⟨p, hp, hpe⟩ := List.mem_map.1 hm
    rw [enE] at hpe
    exact ⟨p, hp, (Prod.mk.inj hpe).1.symm, (Prod.mk.inj hpe).2.symm⟩
  have hr1 : ∀ (x : MapEntry) (p : Int × Int), (Lit.int .i64 p.1).wf = true → (Lit.int .i64 p.2).wf = true → x.key = .int .i64 p.1 → x.val = .int .i64 p.2 → WideElems.rd (H := Unit) P k (plainElem P el) x = some (.int .i64 p.1, .lit (.int .i64 p.2)) := by
    intro x p h1 h2 hxk hxv
    unfold WideElems.rd
    rw [hxk, hxv, plainElem_int he h2]
    simp [keyOf, hk, mapKey, h1]
  refine ⟨.map ((es.toList.map (WideElems.rg P k (plainElem P el))).foldr DataW.insert []), ⟨es, c, hb, ⟨by rw [hlen]; unfold maxLen; omega, hst, fun x hx => ?_⟩, by omega, rfl⟩, ?_, ?_⟩
  · obtain ⟨p, hp, h1, h2⟩ := hrd x hx
    exact ⟨_, hr1 x p (hw p hp).1 (hw p hp).2 h1 h2⟩
  · unfold intKeys
    refine ((Go.WideShapes.sorted_perm _).map _).trans ?_
    have : ∀ (xs : List MapEntry) (l : List (Int × Int)), xs.map (fun e => (e.key, e.val)) = l.map enE → (∀ p ∈ l, (Lit.int .i64 p.1).wf = true ∧ (Lit.int .i64 p.2).wf = true) →
        (xs.map (WideElems.rg (H := Unit) P k (plainElem P el))).map (fun p => intOf p.1) = l.map (·.1) := by
      intro xs
      induction xs with
      | nil => intro l hl _; cases l with
        | nil => rfl
        | cons p l => cases hl
      | cons x xs ih => intro l hl hw; cases l with
        | nil => cases hl
        | cons p l =>
          simp only [List.map_cons, List.cons.injEq, enE, Prod.mk.injEq] at hl
          have h3 := hr1 x p (hw p (List.mem_cons_self ..)).1 (hw p (List.mem_cons_self ..)).2 hl.1.1 hl.1.2
          simp only [List.map_cons]
          rw [ih l hl.2 fun q hq => hw q (List.mem_cons_of_mem _ hq)]
          congr 1
          unfold WideElems.rg
          rw [h3]; rfl
    rw [this es.toList l hes hw]
  · unfold Maps.size
    simp only []
    rw [length_sorted]
    simp [hlen]
/-- a row of the kit's word is a slice of the walk's own -/
theorem K.bel {e w w' : World} {G : View} {L : Own} (hK : K e w G L) (hb : Below w.heap.size w w') : K e w' G L :=
  ⟨hb.tape.trans hK.tape, hb.os.trans hK.os, hb.output.trans hK.out, fun b o h => (hb.block b (hK.view_lt h)).trans (hK.view b o h), fun b o h => (hb.block b (hK.own_lt h)).trans (hK.own b o h), hK.sep, hK.nodup⟩
theorem K.ownsRow {e w w' : World} {G : View} {L : Own} {t sz m : Nat} {v : Value} {cs : List Value} (hK : K e w G L) (hb : Below w.heap.size w w') (h : w'.ownsRow w.heap.size t sz v m cs) :
    ∃ A, OS sz t v m cs A ∧ K e w' G (A ++ L) := by
  obtain ⟨h1, h⟩ := h
  rcases h with ⟨rfl, rfl⟩ | ⟨g, cap, cur, rfl, hg, hc, h2, h3, h4, h5⟩
  · exact ⟨[], ⟨h1, .inl ⟨rfl, rfl, rfl⟩⟩, hK.bel hb⟩
  · refine ⟨[(g, .cells cur t (0, 0))], ⟨h1, .inr ⟨g, cap, cur, rfl, rfl, h2, h3, h4, h5⟩⟩, ?_⟩
    have hK' := hK.bel hb
    refine ⟨hK'.tape, hK'.os, hK'.out, hK'.view, ?_, ?_, ?_⟩
    · intro b o hm
      rcases List.mem_cons.1 hm with hm | hm
      · cases hm; exact hc
      · exact hK'.own b o hm
    · intro b o hm
      rcases List.mem_cons.1 hm with hm | hm
      · cases hm
        cases hgv : G g with
        | none => rfl
        | some y => exact absurd (hK.view_lt hgv) (by omega)
      · exact hK'.sep b o hm
    · show (g :: L.map (·.1)).Nodup
      rw [List.nodup_cons]
      refine ⟨fun hm => ?_, hK'.nodup⟩
      obtain ⟨⟨b, o⟩, hm, hbe⟩ := List.mem_map.1 hm
      have := hK.own_lt hm
      simp only at hbe
      omega
end Go.Ro
