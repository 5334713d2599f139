/- Memory that is new since a view: slices, rings. Worlds in plain lists. Reading worlds: from the given statement's reading to plain lists. New worlds: what is true of them. Conditions: those that each row states. -/
import Derived.Test.YtmgggljicpmndaaGreatDoorRgU
import Derived.Test.YtmgggljicpmndaaGreatDoorRgT
namespace Go.Ro
open Go
section
variable {e w w' : World} {G G' G0 G1 : View} {L A B : Own} {sz t m : Nat} {v : Value} {cs : List Value} {rs : List Rn}
def bl : Value → List Nat
  | .slice (some a) (_ + 1) _ => [a.block]
  | _ => []
def New (sz : Nat) (t : TypeId) (G0 G : View) (v : Value) (m : Nat) (cs : List Value) : Prop :=
  (m = 0 ∧ cs = [] ∧ SlW v 0) ∨ ∃ A, OS sz t v m cs A ∧ ∀ x ∈ A, G0 x.1 = none ∧ G x.1 = some x.2
theorem New.mono (h : New sz t G0 G v m cs) (hG : VLe G G') : New sz t G0 G' v m cs := by
  rcases h with h | ⟨A, h1, h2⟩
  · exact .inl h
  · exact .inr ⟨A, h1, fun x hx => ⟨(h2 x hx).1, hG _ _ (h2 x hx).2⟩⟩
theorem VLe.none (h : VLe G0 G1) {b : Nat} (hb : G1 b = none) : G0 b = none := by
  cases hc : G0 b with
  | none => rfl
  | some o => rw [h b o hc] at hb; cases hb
theorem New.older (h : New sz t G1 G v m cs) (hG : VLe G0 G1) : New sz t G0 G v m cs := by
  rcases h with h | ⟨A, h1, h2⟩
  · exact .inl h
  · exact .inr ⟨A, h1, fun x hx => ⟨hG.none (h2 x hx).1, (h2 x hx).2⟩⟩
theorem addV_in (hK : K e w G (A ++ L)) {x : Nat × Obj} (hx : x ∈ A) : addV G A x.1 = some x.2 :=
  addV_mem (by have := hK.nodup; rw [List.map_append] at this; exact (List.nodup_append.1 this).1) hx
theorem New.own (ho : OS sz t v m cs A) (hK : K e w G (A ++ L)) (hG : VLe G0 G) : New sz t G0 (addV G A) v m cs :=
  .inr ⟨A, ho, fun x hx => ⟨hG.none (hK.sep x.1 x.2 (List.mem_append_left _ hx)), addV_in hK hx⟩⟩
theorem OS.bl (h : OS sz t v m cs A) : ∀ b ∈ bl v, ∃ o, (b, o) ∈ A := by
  rcases h.2 with ⟨rfl, _, _⟩ | ⟨b, cap, cur, rfl, rfl, _⟩
  · intro b hb; simp [Ro.bl] at hb
  · intro b' hb
    cases m with
    | zero => simp [Ro.bl] at hb
    | succ m => simp [Ro.bl] at hb; subst hb; exact ⟨_, List.mem_singleton.2 rfl⟩
theorem SlW.bl (h : SlW v 0) : Ro.bl v = [] := by
  obtain ⟨a, c, rfl, _⟩ := h
  cases a <;> rfl
theorem New.fresh (h : New sz t G0 G v m cs) : ∀ b ∈ bl v, G0 b = none ∧ ∃ o, G b = some o := by
  rcases h with ⟨_, _, h⟩ | ⟨A, h1, h2⟩
  · rw [h.bl]; intro b hb; exact absurd hb (by simp)
  · intro b hb
    obtain ⟨o, ho⟩ := h1.bl b hb
    exact ⟨(h2 _ ho).1, o, (h2 _ ho).2⟩
theorem bl_nodup (v : Value) : (bl v).Nodup := by
  unfold bl; split <;> simp
def OZ (sz : Nat) (t : TypeId) (v : Value) (m : Nat) (cs : List Value) (A : Own) : Prop :=
  OS sz t v m cs A ∨ (m = 0 ∧ cs = [] ∧ A = [] ∧ SlW v 0)
theorem OZ.os (h : OZ sz t v m cs A) (hm : 0 < m) : OS sz t v m cs A := by
  rcases h with h | ⟨h, _⟩
  · exact h
  · omega
theorem OZ.slw (h : OZ sz t v m cs A) : SlW v m := by
  rcases h with h | ⟨rfl, _, _, h⟩
  · exact h.slw
  · exact h
theorem OZ.nodup (h : OZ sz t v m cs A) : (A.map (·.1)).Nodup := by
  rcases h with h | ⟨_, _, rfl, _⟩
  · exact h.nodup
  · simp
theorem New.oz (h : New sz t G0 G v m cs) : ∃ A, OZ sz t v m cs A ∧ A.map (·.1) = bl v ∧ ∀ x ∈ A, G0 x.1 = none ∧ G x.1 = some x.2 := by
  rcases h with ⟨h1, h2, h3⟩ | ⟨A, h1, h2⟩
  · exact ⟨[], .inr ⟨h1, h2, rfl, h3⟩, by rw [h3.bl]; rfl, fun x hx => absurd hx (by simp)⟩
  · rcases h1.2 with ⟨rfl, rfl, rfl⟩ | ⟨b, cap, cur, rfl, rfl, h4, h5, h6, h7⟩
    · exact ⟨[], .inl h1, rfl, h2⟩
    · cases m with
      | zero =>
        refine ⟨[], .inr ⟨rfl, ?_, rfl, ⟨_, _, rfl, by omega, h5, .inl rfl⟩⟩, rfl, fun x hx => absurd hx (by simp)⟩
        rw [← h7]; simp
      | succ m => exact ⟨_, .inl h1, rfl, h2⟩
def subV (G : View) (bs : List Nat) : View := fun b => if b ∈ bs then none else G b
theorem subV_le (hG : VLe G0 G) {bs : List Nat} (h : ∀ b ∈ bs, G0 b = none) : VLe G0 (subV G bs) := by
  intro b o hb
  unfold subV
  rw [if_neg (fun hc => by rw [h b hc] at hb; cases hb)]
  exact hG b o hb
theorem K.take (hK : K e w G L) (hA : ∀ x ∈ A, G x.1 = some x.2) (hn : (A.map (·.1)).Nodup) : K e w (subV G (A.map (·.1))) (A ++ L) := by
  have hs : ∀ b o, (b, o) ∈ A → subV G (A.map (·.1)) b = none := fun b o h => if_pos (List.mem_map.2 ⟨_, h, rfl⟩)
  refine ⟨hK.tape, hK.os, hK.out, fun b o h => ?_, fun b o h => ?_, fun b o h => ?_, ?_⟩
  · unfold subV at h
    split at h
    · cases h
    · exact hK.view b o h
  · rcases List.mem_append.1 h with h | h
    · exact hK.view b o (hA _ h)
    · exact hK.own b o h
  · rcases List.mem_append.1 h with h | h
    · exact hs b o h
    · unfold subV; split
      · rfl
      · exact hK.sep b o h
  · rw [List.map_append, List.nodup_append]
    refine ⟨hn, hK.nodup, fun x hx y hy hxy => ?_⟩
    subst hxy
    obtain ⟨p, hp, rfl⟩ := List.mem_map.1 hx
    obtain ⟨q, hq, he⟩ := List.mem_map.1 hy
    have h1 := hA p hp
    have h2 := hK.sep q.1 q.2 hq
    rw [he] at h2
    rw [h1] at h2; cases h2
structure RnF (t : TypeId) (G0 G : View) (rs : List Rn) : Prop where
  new : ∀ x ∈ rs, New 1 t G0 G x.2.2.1 x.2.2.2.length (ints x.2.2.2)
  nd : (rs.flatMap fun x => bl x.2.2.1).Nodup
theorem RnF.mono (h : RnF t G0 G rs) (hG : VLe G G') : RnF t G0 G' rs := ⟨fun x hx => (h.new x hx).mono hG, h.nd⟩
theorem RnF.older (h : RnF t G1 G rs) (hG : VLe G0 G1) : RnF t G0 G rs := ⟨fun x hx => (h.new x hx).older hG, h.nd⟩
theorem RnF.nil : RnF t G0 G [] := ⟨fun _ h => absurd h (by simp), List.nodup_nil⟩
theorem RnF.sub {ps : List Rn} (h : RnF t G0 G rs) (hs : ps.Sublist rs) : RnF t G0 G ps :=
  ⟨fun x hx => h.new x (hs.subset hx), h.nd.sublist (by
    clear h
    induction hs with
    | slnil => exact List.Sublist.refl _
    | cons a _ ih => rw [List.flatMap_cons]; exact ih.trans (List.sublist_append_right _ _)
    | cons_cons a _ ih => rw [List.flatMap_cons, List.flatMap_cons]; exact (List.Sublist.refl _).append ih)⟩
theorem RnF.perm {ps : List Rn} (h : RnF t G0 G rs) (hp : ps.Perm rs) : RnF t G0 G ps :=
  ⟨fun x hx => h.new x (hp.subset hx), (hp.flatMap_right _).nodup_iff.2 h.nd⟩
theorem RnF.cons {x : Rn} (h : RnF t G0 G rs) (hx : New 1 t G0 G' x.2.2.1 x.2.2.2.length (ints x.2.2.2)) (hG : VLe G G') (hb : ∀ b ∈ bl x.2.2.1, G b = none) : RnF t G0 G' (x :: rs) := by
  refine ⟨fun y hy => ?_, ?_⟩
  · rcases List.mem_cons.1 hy with rfl | hy
    · exact hx
    · exact (h.new y hy).mono hG
  · rw [List.flatMap_cons, List.nodup_append]
    refine ⟨bl_nodup _, h.nd, fun b h1 b' h2 hbb => ?_⟩
    subst hbb
    obtain ⟨y, hy, hyb⟩ := List.mem_flatMap.1 h2
    obtain ⟨_, o, ho⟩ := (h.new y hy).fresh b hyb
    rw [hb b h1] at ho; cases ho
theorem RnF.set {x : Rn} {i : Nat} (h : RnF t G0 G rs) (hi : i < rs.length) (hx : New 1 t G0 G' x.2.2.1 x.2.2.2.length (ints x.2.2.2)) (hG : VLe G G') (hb : ∀ b ∈ bl x.2.2.1, G b = none) : RnF t G0 G' (rs.set i x) := by
  have e : rs.set i x = rs.take i ++ x :: rs.drop (i + 1) := by rw [List.set_eq_take_append_cons_drop, if_pos hi]
  rw [e]
  refine (RnF.cons (h.sub ?_) hx hG hb).perm List.perm_middle
  rw [← List.eraseIdx_eq_take_drop_succ]
  exact List.eraseIdx_sublist rs i
theorem RnF.ins {x : Rn} {ps qs : List Rn} (h : RnF t G0 G (ps ++ qs)) (hx : New 1 t G0 G' x.2.2.1 x.2.2.2.length (ints x.2.2.2)) (hG : VLe G G') (hb : ∀ b ∈ bl x.2.2.1, G b = none) : RnF t G0 G' (ps ++ x :: qs) :=
  (h.cons hx hG hb).perm List.perm_middle
theorem RnF.same {x : Rn} {i : Nat} (h : RnF t G0 G rs) (hi : i < rs.length) (h1 : x.2.2 = rs[i].2.2) : RnF t G0 G (rs.set i x) := by
  have e : (rs.set i x).map (fun y => y.2.2) = rs.map fun y => y.2.2 := by
    rw [List.map_set, h1]
    refine List.ext_getElem (by simp) fun j h2 h3 => ?_
    rw [List.getElem_set]
    split
    · rename_i hij; subst hij; simp
    · rfl
  have hf : ∀ (l : List Rn), (l.flatMap fun y => bl y.2.2.1) = (l.map fun y => y.2.2).flatMap fun z => bl z.1 := fun l => by rw [List.flatMap_map]
  refine ⟨fun y hy => ?_, by rw [hf, e, ← hf]; exact h.nd⟩
  have hm : y.2.2 ∈ rs.map fun y => y.2.2 := by rw [← e]; exact List.mem_map.2 ⟨y, hy, rfl⟩
  obtain ⟨z, hz, hzy⟩ := List.mem_map.1 hm
  rw [← hzy]; exact h.new z hz
def OZS (t : TypeId) (us : List (Value × List Int × Own)) : Prop := ∀ p ∈ us, OZ 1 t p.1 p.2.1.length (ints p.2.1) p.2.2
theorem RnF.own (h : RnF t G0 G rs) : ∃ os : List Ron, toRs os = rs ∧ OZS t (uso os) ∧ (flat (uso os)).map (·.1) = (rs.flatMap fun x => bl x.2.2.1) ∧ ∀ x ∈ flat (uso os), G0 x.1 = none ∧ G x.1 = some x.2 := by
  have hn := h.new
  clear h
  induction rs with
  | nil => exact ⟨[], rfl, fun _ h => absurd h (by simp [uso]), rfl, fun _ h => absurd h (by simp [uso, flat])⟩
  | cons x rs ih =>
    obtain ⟨os, h1, h2, h3, h4⟩ := ih fun y hy => hn y (List.mem_cons_of_mem _ hy)
    obtain ⟨A, g1, g2, g3⟩ := (hn x (List.mem_cons_self ..)).oz
    refine ⟨(x.1, x.2.1, x.2.2.1, x.2.2.2, A) :: os, by rw [← h1]; rfl, fun p hp => ?_, ?_, fun y hy => ?_⟩
    · rcases List.mem_cons.1 (show p ∈ (x.2.2.1, x.2.2.2, A) :: uso os from hp) with rfl | hp
      · exact g1
      · exact h2 p hp
    · show (((x.2.2.1, x.2.2.2, A) :: uso os).flatMap (·.2.2)).map (·.1) = _
      rw [List.flatMap_cons, List.flatMap_cons, List.map_append, g2, ← h3]; rfl
    · rcases List.mem_append.1 (show y ∈ A ++ flat (uso os) from hy) with hy | hy
      · exact g3 y hy
      · exact h4 y hy
end
open Go
abbrev It := Int × Int
def ic (x : It) : List Value := [.int .i64 x.1, .int .i64 x.2]
abbrev ItS := SlR 2 (EF ic)
theorem ItS.mono {G G' : View} {v : Value} {xs : List It} (h : ItS G v xs) (hG : VLe G G') : ItS G' v xs := EF.mono h hG
def keys (xs : List It) : List Int := xs.map (·.1)
def ItOk (xs : List It) : Prop := (∀ x ∈ xs, 0 ≤ x.2 ∧ x.2 ≤ 99) ∧ Asc (keys xs)
structure Wd where
  now : Int
  ring : List Nd
  leases : List Ls
  items : List It
  scan : Sn
  since : List Int
def SiOk (w : Wd) : Prop := ∀ k ∈ w.since, k ∈ keys w.items ∧ (k < w.scan.1 → k ∈ w.scan.2)
def WdOk (w : Wd) : Prop := Tm w.now ∧ RgSafe w.ring ∧ LsOk w.leases ∧ ItOk w.items ∧ SnOk w.scan ∧ Asc w.since ∧ SiOk w
def wdZ : Wd := ⟨0, [], [], [], (0, []), []⟩
def own (w : Wd) (k : Int) : Int := if (lsAt w.leases k).2.2 < w.now ∨ (lsAt w.leases k).2.1 ∉ ids w.ring then -1 else (lsAt w.leases k).2.1
structure Wv where
  now : Int
  r : Value
  l : Value
  i : Value
  next : Int
  t : Value
  s : Value
def wc (W : Wv) : List Value := [.int .i64 W.now, W.r, W.l, W.i, .int .i64 W.next, W.t, W.s]
structure WdS (G : View) (lc : Ls → List Value) (W : Wv) (w : Wd) (rs : List Rn) : Prop where
  now : W.now = w.now
  ring : RngS G W.r rs
  rg : rgl rs = w.ring
  leases : SlR 3 (EF lc) G W.l w.leases
  items : ItS G W.i w.items
  next : W.next = w.scan.1
  told : IntS G W.t w.scan.2
  since : IntS G W.s w.since
theorem WdS.mono {G G' : View} {lc : Ls → List Value} {W : Wv} {w : Wd} {rs : List Rn} (h : WdS G lc W w rs) (hG : VLe G G') : WdS G' lc W w rs :=
  ⟨h.now, h.ring.mono hG, h.rg, EF.mono h.leases hG, h.items.mono hG, h.next, h.told.mono hG, h.since.mono hG⟩
theorem keys_len (xs : List It) : (keys xs).length = xs.length := by simp [keys]
theorem keys_snoc (xs : List It) (x : It) : keys (xs ++ [x]) = keys xs ++ [x.1] := by simp [keys]
section
variable {e w : World} {G : View} {L : Own} {P : Program} {n : Nat} {f : Sl} {dst : Option Nat} {ty : TypeId} {pos : String} {af : Array Edge} {g : Option (Nat × Bool)}
theorem lsP {T sz : Nat} {x : Operand} {b t o : Nat} {cs u : List Value} (hK : K e w G L) (h1 : AggC P T) (hs : (P.info? T).map (·.size) = some sz) (k : Nat) (hn : L[k]? = some (b, row cs t))
    (hp : ev n f x = .pointer (some ⟨b, o, none⟩)) (hl : u.length = sz) (hu : (cs.drop o).take u.length = u) : St P n ⟨dst, .load T x, ty, pos, af, g⟩ f w (.agg u.toArray) w :=
  lsC h1 hs hp hl fun j c hj => by
    rw [row_cell (hK.own _ _ (List.mem_of_getElem? hn))]
    have hlt := (List.getElem?_eq_some_iff.1 hj).1
    rw [← hu, List.getElem?_take, if_pos hlt, List.getElem?_drop] at hj
    exact hj
end
def idN (xs : List Int) (i : Nat) : Nd := (xs.getD i 0, xs.getD (((i : Int) + xs.length - 1) % xs.length).toNat 0, [xs.getD (((i : Int) + 1) % xs.length).toNat 0, xs.getD (((i : Int) + 2) % xs.length).toNat 0])
def idl (xs : List Int) : List Nd := (List.range xs.length).map (idN xs)
def idTo (xs : List Int) (i : Nat) : List Nd := (List.range i).map (idN xs)
def NdsOk (xs : List Int) : Prop := (1 ≤ xs.length ∧ xs.length ≤ 10) ∧ Asc xs
def newW (xs : List Int) : Wd := ⟨0, idl xs, xs.map (fun k => (k, k, 20)), [], (0, []), []⟩
def afl (xs : List Int) (i : Nat) : List Int := [xs.getD (((i : Int) + 1) % xs.length).toNat 0, xs.getD (((i : Int) + 2) % xs.length).toNat 0]
theorem nd_eq {x y : Rn} (h1 : x.1 = y.1) (h2 : x.2.1 = y.2.1) (h3 : x.2.2.2 = y.2.2.2) : nd x = nd y := by unfold nd; rw [h1, h2, h3]
section
variable {P : Program} {n : Nat} {f : Sl} {w : World} {dst : Option Tmp} {ty : TypeId} {pos : String} {af : Array Edge} {g : Option (Nat × Bool)}
end
theorem wd_eq {a b : Wd} (h1 : a.now = b.now) (h2 : a.ring = b.ring) (h3 : a.leases = b.leases) (h4 : a.items = b.items) (h5 : a.scan = b.scan) (h6 : a.since = b.since) : a = b := by
  cases a; cases b; simp_all
def nxt (xs : List Int) (k : Int) : Int := (xs.find? (fun x => decide (x ≥ k))).getD (xs.getD 0 0)
theorem SlR.lit0 {α : Type} {sz : Nat} {E : View → List Value → α → Prop} {G : View} {p : Option Addr} : SlR sz E G (.slice p 0 0) [] := ⟨⟨p, 0, rfl, Nat.le_refl _, Nat.zero_le _, .inl rfl⟩, fun i x h => by simp at h⟩
theorem WdS.zero {G : View} {lc : Ls → List Value} : WdS G lc ⟨0, .slice none 0 0, .slice none 0 0, .slice none 0 0, 0, .slice none 0 0, .slice none 0 0⟩ wdZ [] :=
  ⟨rfl, RngS.lit, rfl, SlR.lit0, SlR.lit0, rfl, SlR.lit0, SlR.lit0⟩
theorem Asc.ins {xs : List Int} (h : Asc xs) {p : Int} {k : Nat} (hp : Pt p) (_ : k ≤ xs.length) (h1 : ∀ x ∈ xs.take k, x < p) (h2 : ∀ hk : k < xs.length, ¬ xs[k] < p) (hn : p ∉ xs) : Asc (xs.take k ++ p :: xs.drop k) := by
  refine ⟨fun x hx => ?_, ?_⟩
  · rcases List.mem_append.1 hx with hx | hx
    · exact h.1 x (List.mem_of_mem_take hx)
    · rcases List.mem_cons.1 hx with rfl | hx
      · exact hp
      · exact h.1 x (List.mem_of_mem_drop hx)
  · have h0 := h.2
    rw [← List.take_append_drop k xs, List.pairwise_append] at h0
    rw [List.pairwise_append, List.pairwise_cons]
    have hd : ∀ x ∈ xs.drop k, p < x := fun x hx => by
      rcases Nat.lt_or_ge k xs.length with hlt | hge
      · rw [List.drop_eq_getElem_cons hlt] at hx
        have h3 := h2 hlt
        have hne : p ≠ xs[k] := fun e => hn (e ▸ List.getElem_mem hlt)
        rcases List.mem_cons.1 hx with rfl | hx
        · omega
        · have h4 := h0.2.1
          rw [List.drop_eq_getElem_cons hlt, List.pairwise_cons] at h4
          have := h4.1 x hx
          simp only [id] at this; omega
      · rw [List.drop_eq_nil_of_le hge] at hx; cases hx
    refine ⟨h0.1, ⟨fun x hx => hd x hx, h0.2.1⟩, fun x hx y hy => ?_⟩
    rcases List.mem_cons.1 hy with rfl | hy
    · exact h1 x hx
    · exact h0.2.2 x hx y hy
open Go Go.ChangeShapes Go.WideShapes Go.RowKit
section
variable {H : Type} {enc : TypeId × Value → H} {P : Program} {w : World} {base : Nat} {held : Bool}
variable {t : TypeId} {fs : Array Field} {f : Field} {fuel i o k : Nat} {cs : List Value} {x : DataW H × List MemPlace}
theorem read_fieldN {spare : Nat → Bool} (ht : P.underlying t = some (.struct fs)) (hi : fs[i]? = some f) (ho : f.offset = o) (hc : P.cellsOf f.type = k) (hcl : o + k ≤ P.cellsOf t)
    (h : DataW.trod enc P w base spare held fuel t cs = some x) : ∃ m y, ((cs.drop o).take k).length = k ∧ DataW.trod enc P w base spare held m f.type ((cs.drop o).take k) = some y := by
  obtain ⟨xs, n, _, _, hcs, hl, hx⟩ := DataW.trod_struct ht h
  have h1 := hx i f hi
  have hlt : i < fs.size := by
    rcases Nat.lt_or_ge i fs.size with h | h
    · exact h
    · rw [Array.getElem?_eq_none h] at hi; cases hi
  rw [List.getElem?_eq_getElem (by omega), ho, hc] at h1
  exact ⟨n, _, by rw [List.length_take, List.length_drop]; omega, h1⟩
theorem read_fsl {α : Type} {E : View → List Value → α → Prop} {e : TypeId} {sz : Nat} (ht : P.underlying t = some (.struct fs)) (hi : fs[i]? = some f) (ho : f.offset = o) (hc1 : P.cellsOf f.type = 1) (hcl : o < P.cellsOf t)
    (hk : P.underlying f.type = some (.slice e)) (hc : P.cellsOf e = sz) (hsz : 1 ≤ sz)
    (hel : ∀ fuel cs x, cs.length = sz → DataW.trod enc P w base (fun _ => true) held fuel e cs = some x → ∃ y, E (hvw w) cs y)
    (h : DataW.trod enc P w base (fun _ => true) held fuel t cs = some x) : ∃ v ys, cs[o]? = some v ∧ SlR sz E (hvw w) v ys := by
  obtain ⟨m, v, y, h1, h2⟩ := read_field ht hi ho hc1 hcl h
  obtain ⟨ys, h3⟩ := read_sl hk hc hsz hel h2
  exact ⟨v, ys, h1, h3⟩
theorem read_nd {e : TypeId} {f0 f1 f2 : Field} (ht : P.underlying t = some (.struct #[f0, f1, f2])) (hc : P.cellsOf t = 3)
    (h0 : f0.offset = 0 ∧ P.cellsOf f0.type = 1 ∧ P.underlying f0.type = some (.int .i64)) (h1 : f1.offset = 1 ∧ P.cellsOf f1.type = 1 ∧ P.underlying f1.type = some (.int .i64))
    (h2 : f2.offset = 2 ∧ P.cellsOf f2.type = 1 ∧ P.underlying f2.type = some (.slice e)) (he : P.underlying e = some (.int .i64) ∧ P.cellsOf e = 1) (hl : cs.length = 3)
    (h : DataW.trod enc P w base (fun _ => true) held fuel t cs = some x) : ∃ y : Rn, EF rc (hvw w) cs y ∧ IntS (hvw w) y.2.2.1 y.2.2.2 := by
  obtain ⟨a, ha⟩ := read_int (i := 0) ht rfl h0.1 h0.2.1 (by omega) h0.2.2 h
  obtain ⟨b, hb⟩ := read_int (i := 1) ht rfl h1.1 h1.2.1 (by omega) h1.2.2 h
  obtain ⟨v, zs, hcc, hz⟩ := read_fints (i := 2) ht rfl h2.1 h2.2.1 (by omega) h2.2.2 he.1 he.2 h
  refine ⟨(a, b, v, zs), ?_, hz⟩
  match cs, hl with
  | [p, q, r], _ => simp at ha hb hcc; subst ha; subst hb; subst hcc; rfl
theorem read_it {spare : Nat → Bool} {f0 f1 : Field} (ht : P.underlying t = some (.struct #[f0, f1])) (hc : P.cellsOf t = 2)
    (h0 : f0.offset = 0 ∧ P.cellsOf f0.type = 1 ∧ P.underlying f0.type = some (.int .i64)) (h1 : f1.offset = 1 ∧ P.cellsOf f1.type = 1 ∧ P.underlying f1.type = some (.int .i64)) (hl : cs.length = 2)
    (h : DataW.trod enc P w base spare held fuel t cs = some x) {G : View} : ∃ y : It, EF ic G cs y := by
  obtain ⟨a, ha⟩ := read_int (i := 0) ht rfl h0.1 h0.2.1 (by omega) h0.2.2 h
  obtain ⟨b, hb⟩ := read_int (i := 1) ht rfl h1.1 h1.2.1 (by omega) h1.2.2 h
  refine ⟨(a, b), ?_⟩
  match cs, hl with
  | [p, q], _ => simp at ha hb; subst ha; subst hb; rfl
theorem read_ev {spare : Nat → Bool} {f0 f1 f2 f3 : Field} (ht : P.underlying t = some (.struct #[f0, f1, f2, f3])) (hc : P.cellsOf t = 4)
    (h0 : f0.offset = 0 ∧ P.cellsOf f0.type = 1 ∧ P.underlying f0.type = some (.int .i64)) (h1 : f1.offset = 1 ∧ P.cellsOf f1.type = 1 ∧ P.underlying f1.type = some (.int .i64))
    (h2 : f2.offset = 2 ∧ P.cellsOf f2.type = 1 ∧ P.underlying f2.type = some (.int .i64)) (h3 : f3.offset = 3 ∧ P.cellsOf f3.type = 1 ∧ P.underlying f3.type = some (.int .i64)) (hl : cs.length = 4)
    (h : DataW.trod enc P w base spare held fuel t cs = some x) : ∃ a b c d, cs = [.int .i64 a, .int .i64 b, .int .i64 c, .int .i64 d] := by
  obtain ⟨a, ha⟩ := read_int (i := 0) ht rfl h0.1 h0.2.1 (by omega) h0.2.2 h
  obtain ⟨b, hb⟩ := read_int (i := 1) ht rfl h1.1 h1.2.1 (by omega) h1.2.2 h
  obtain ⟨c, hcc⟩ := read_int (i := 2) ht rfl h2.1 h2.2.1 (by omega) h2.2.2 h
  obtain ⟨d, hd⟩ := read_int (i := 3) ht rfl h3.1 h3.2.1 (by omega) h3.2.2 h
  refine ⟨a, b, c, d, ?_⟩
  match cs, hl with
  | [p, q, r, s], _ => simp at ha hb hcc hd; subst ha; subst hb; subst hcc; subst hd; rfl
theorem read_scanL {e : TypeId} {f0 f1 : Field} (ht : P.underlying t = some (.struct #[f0, f1])) (hc : P.cellsOf t = 2)
    (h0 : f0.offset = 0 ∧ P.cellsOf f0.type = 1 ∧ P.underlying f0.type = some (.int .i64))
    (h1 : f1.offset = 1 ∧ P.cellsOf f1.type = 1 ∧ P.underlying f1.type = some (.slice e)) (he : P.underlying e = some (.int .i64) ∧ P.cellsOf e = 1) (hs : cs.length = 2)
    (h : DataW.trod enc P w base (fun _ => true) held fuel t cs = some x) : ∃ n v zs, cs = [.int .i64 n, v] ∧ IntS (hvw w) v zs := by
  obtain ⟨n, v, zs, h1, h2⟩ := read_scan (cs := cs.toArray) ht hc h0 h1 he (by simpa using hs) (by simpa using h)
  exact ⟨n, v, zs, by simpa using congrArg Array.toList h1, h2⟩
theorem rng_of {G : View} {v : Value} {rs : List Rn} (h : SlR 3 (fun G cs (y : Rn) => EF rc G cs y ∧ IntS G y.2.2.1 y.2.2.2) G v rs) : RngS G v rs :=
  ⟨⟨h.1, fun i x hx => by obtain ⟨cs, a, b, c, _⟩ := h.2 i x hx; exact ⟨cs, a, b, c⟩⟩, fun x hx => by
    obtain ⟨i, hi⟩ := List.getElem?_of_mem hx
    obtain ⟨cs, _, _, _, d⟩ := h.2 i x hi; exact d⟩
theorem read_world {lc : Ls → List Value} {f0 f1 f2 f3 f4 f5 : Field} (ht : P.underlying t = some (.struct #[f0, f1, f2, f3, f4, f5])) (hc : P.cellsOf t = 7)
    (ho : f0.offset = 0 ∧ f1.offset = 1 ∧ f2.offset = 2 ∧ f3.offset = 3 ∧ f4.offset = 4 ∧ f5.offset = 6)
    (hs : P.cellsOf f0.type = 1 ∧ P.cellsOf f1.type = 1 ∧ P.cellsOf f2.type = 1 ∧ P.cellsOf f3.type = 1 ∧ P.cellsOf f4.type = 2 ∧ P.cellsOf f5.type = 1)
    (h0 : P.underlying f0.type = some (.int .i64)) {e1 e2 e3 e5 : TypeId} (h1 : P.underlying f1.type = some (.slice e1)) (h2 : P.underlying f2.type = some (.slice e2)) (h3 : P.underlying f3.type = some (.slice e3))
    (h5 : P.underlying f5.type = some (.slice e5)) (he5 : P.underlying e5 = some (.int .i64) ∧ P.cellsOf e5 = 1) (hcs : P.cellsOf e1 = 3 ∧ P.cellsOf e2 = 3 ∧ P.cellsOf e3 = 2)
    (r1 : ∀ fuel cs x, cs.length = 3 → DataW.trod enc P w base (fun _ => true) held fuel e1 cs = some x → ∃ y : Rn, EF rc (hvw w) cs y ∧ IntS (hvw w) y.2.2.1 y.2.2.2)
    (r2 : ∀ fuel cs x, cs.length = 3 → DataW.trod enc P w base (fun _ => true) held fuel e2 cs = some x → ∃ y : Ls, EF lc (hvw w) cs y)
    (r3 : ∀ fuel cs x, cs.length = 2 → DataW.trod enc P w base (fun _ => true) held fuel e3 cs = some x → ∃ y : It, EF ic (hvw w) cs y)
    (r4 : ∀ fuel cs x, cs.length = 2 → DataW.trod enc P w base (fun _ => true) held fuel f4.type cs = some x → ∃ n v zs, cs = [.int .i64 n, v] ∧ IntS (hvw w) v zs)
    {ca : Array Value} (hz : ca.size = 7) (h : DataW.trod enc P w base (fun _ => true) held fuel t ca.toList = some x) : ∃ W wd rs, ca = (wc W).toArray ∧ WdS (hvw w) lc W wd rs := by
  obtain ⟨o0, o1, o2, o3, o4, o5⟩ := ho
  obtain ⟨s0, s1, s2, s3, s4, s5⟩ := hs
  obtain ⟨now, g0⟩ := read_int (i := 0) ht rfl o0 s0 (by omega) h0 h
  obtain ⟨vr, rs, g1, k1⟩ := read_fsl (i := 1) (E := fun G cs (y : Rn) => EF rc G cs y ∧ IntS G y.2.2.1 y.2.2.2) ht rfl o1 s1 (by omega) h1 hcs.1 (by omega) r1 h
  obtain ⟨vl, ls, g2, k2⟩ := read_fsl (i := 2) (E := EF lc) ht rfl o2 s2 (by omega) h2 hcs.2.1 (by omega) r2 h
  obtain ⟨vi, zs, g3, k3⟩ := read_fsl (i := 3) (E := EF ic) ht rfl o3 s3 (by omega) h3 hcs.2.2 (by omega) r3 h
  obtain ⟨m, y, g4, k4⟩ := read_fieldN (i := 4) (k := 2) ht rfl o4 s4 (by omega) h
  obtain ⟨nx, vt, ts, e4, k4⟩ := r4 _ _ _ g4 k4
  obtain ⟨vs, ss, g5, k5⟩ := read_fints (i := 5) ht rfl o5 s5 (by omega) h5 he5.1 he5.2 h
  refine ⟨⟨now, vr, vl, vi, nx, vt, vs⟩, ⟨now, rgl rs, ls, zs, (nx, ts), ss⟩, rs, ?_, ⟨rfl, rng_of k1, rfl, k2, k3, rfl, k4, k5⟩⟩
  obtain ⟨l⟩ := ca
  match l, hz with
  | [p0, p1, p2, p3, p4, p5, p6], _ =>
    simp at g0 g1 g2 g3 e4 g5
    subst g0; subst g1; subst g2; subst g3; subst g5
    obtain ⟨rfl, rfl⟩ := e4
    rfl
end
theorem Asc.mono {xs : List Int} (h : Asc xs) {i j : Nat} (hi : i < xs.length) (hj : j < xs.length) : xs[i] < xs[j] ↔ i < j := by
  have hp := List.pairwise_iff_getElem.1 h.2
  constructor
  · intro hl
    rcases Nat.lt_trichotomy i j with h1 | h1 | h1
    · exact h1
    · subst h1; omega
    · have := hp j i hj hi h1; simp only [id] at this; omega
  · intro hl
    exact hp i j hi hj hl
theorem Asc.next {xs : List Int} (h : Asc xs) (h3 : 3 ≤ xs.length) {i : Nat} (hi : i < xs.length) {k : Int} (hk : k ∈ xs) : btw xs[i] k (xs[(i + 1) % xs.length]'(Nat.mod_lt _ (by omega))) = false := by
  obtain ⟨j, hj, rfl⟩ := List.getElem_of_mem hk
  have hm := Nat.mod_lt (i + 1) (show xs.length > 0 by omega)
  have h1 := h.mono hi hj
  have h2 := h.mono hj hm
  have h4 := h.mono hi hm
  rcases Nat.lt_or_ge (i + 1) xs.length with hc | hc
  · have e : (i + 1) % xs.length = i + 1 := Nat.mod_eq_of_lt hc
    have : i < (i + 1) % xs.length := by omega
    unfold btw
    rw [if_pos (h4.2 this)]
    refine decide_eq_false ?_
    rintro ⟨g1, g2⟩
    have := h1.1 g1
    have := h2.1 g2
    omega
  · have e : (i + 1) % xs.length = 0 := by rw [show i + 1 = xs.length by omega]; exact Nat.mod_self _
    unfold btw
    rw [if_neg (fun g => by have := h4.1 g; omega)]
    refine decide_eq_false ?_
    rintro (g | g)
    · have := h1.1 g; omega
    · have := h2.1 g; omega
end Go.Ro
