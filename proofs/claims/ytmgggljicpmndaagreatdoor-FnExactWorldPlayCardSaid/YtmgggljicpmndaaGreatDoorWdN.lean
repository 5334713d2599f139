/- Memory that is new since a view: slices, rings. Worlds in plain lists. Reading worlds: from the given statement's reading to plain lists. New worlds: what is true of them. Conditions: those that each row states. -/
import Derived.Test.YtmgggljicpmndaaGreatDoorRgU
import Derived.Test.YtmgggljicpmndaaGreatDoorRgT
namespace Go.Ro
open Go
section
variable {e w w' : World} {G G' G0 G1 : View} {L A B : Own} {sz t m : Nat} {v : Value} {cs : List Value} {rs : List Rn}
def bl : Value → List Nat
  | .slice (some a) (_ + 1) _ => [a.block]
  | _ => []
def New (sz : Nat) (t : TypeId) (G0 G : View) (v : Value) (m : Nat) (cs : List Value) : Prop :=
  (m = 0 ∧ cs = [] ∧ SlW v 0) ∨ ∃ A, OS sz t v m cs A ∧ ∀ x ∈ A, G0 x.1 = none ∧ G x.1 = some x.2
theorem New.mono (h : New sz t G0 G v m cs) (hG : VLe G G') : New sz t G0 G' v m cs := by
  rcases h with h | ⟨A, h1, h2⟩
  · exact .inl h
  · exact .inr ⟨A, h1, fun x hx => ⟨(h2 x hx).1, hG _ _ (h2 x hx).2⟩⟩
theorem VLe.none (h : VLe G0 G1) {b : Nat} (hb : G1 b = none) : G0 b = none := by
  cases hc : G0 b with
  | none => rfl
  | some o => rw [h b o hc] at hb; cases hb
theorem New.older (h : New sz t G1 G v m cs) (hG : VLe G0 G1) : New sz t G0 G v m cs := by
  rcases h with h | ⟨A, h1, h2⟩
  · exact .inl h
  · exact .inr ⟨A, h1, fun x hx => ⟨hG.none (h2 x hx).1, (h2 x hx).2⟩⟩
theorem addV_in (hK : K e w G (A ++ L)) {x : Nat × Obj} (hx : x ∈ A) : addV G A x.1 = some x.2 :=
  addV_mem (by have := hK.nodup; rw [List.map_append] at this; exact (List.nodup_append.1 this).1) hx
theorem New.own (ho : OS sz t v m cs A) (hK : K e w G (A ++ L)) (hG : VLe G0 G) : New sz t G0 (addV G A) v m cs :=
  .inr ⟨A, ho, fun x hx => ⟨hG.none (hK.sep x.1 x.2 (List.mem_append_left _ hx)), addV_in hK hx⟩⟩
theorem OS.bl (h : OS sz t v m cs A) : ∀ b ∈ bl v, ∃ o, (b, o) ∈ A := by
  rcases h.2 with ⟨rfl, _, _⟩ | ⟨b, cap, cur, rfl, rfl, _⟩
  · intro b hb; simp [Ro.bl] at hb
  · intro b' hb
    cases m with
    | zero => simp [Ro.bl] at hb
    | succ m => simp [Ro.bl] at hb; subst hb; exact ⟨_, List.mem_singleton.2 rfl⟩
theorem SlW.bl (h : SlW v 0) : Ro.bl v = [] := by
  obtain ⟨a, c, rfl, _⟩ := h
  cases a <;> rfl
theorem New.fresh (h : New sz t G0 G v m cs) : ∀ b ∈ bl v, G0 b = none ∧ ∃ o, G b = some o := by
  rcases h with ⟨_, _, h⟩ | ⟨A, h1, h2⟩
  · rw [h.bl]; intro b hb; exact absurd hb (by simp)
  · intro b hb
    obtain ⟨o, ho⟩ := h1.bl b hb
    exact ⟨(h2 _ ho).1, o, (h2 _ ho).2⟩
theorem bl_nodup (v : Value) : (bl v).Nodup := by
  unfold bl; split <;> simp
def OZ (sz : Nat) (t : TypeId) (v : Value) (m : Nat) (cs : List Value) (A : Own) : Prop :=
  OS sz t v m cs A ∨ (m = 0 ∧ cs = [] ∧ A = [] ∧ SlW v 0)
theorem OZ.os (h : OZ sz t v m cs A) (hm : 0 < m) : OS sz t v m cs A := by
  rcases h with h | ⟨h, _⟩
  · exact h
  · omega
theorem OZ.slw (h : OZ sz t v m cs A) : SlW v m := by
  rcases h with h | ⟨rfl, _, _, h⟩
  · exact h.slw
  · exact h
theorem OZ.nodup (h : OZ sz t v m cs A) : (A.map (·.1)).Nodup := by
  rcases h with h | ⟨_, _, rfl, _⟩
  · exact h.nodup
  · simp
theorem New.oz (h : New sz t G0 G v m cs) : ∃ A, OZ sz t v m cs A ∧ A.map (·.1) = bl v ∧ ∀ x ∈ A, G0 x.1 = none ∧ G x.1 = some x.2 := by
  rcases h with ⟨h1, h2, h3⟩ | ⟨A, h1, h2⟩
  · exact ⟨[], .inr ⟨h1, h2, rfl, h3⟩, by rw [h3.bl]; rfl, fun x hx => absurd hx (by simp)⟩
  · rcases h1.2 with ⟨rfl, rfl, rfl⟩ | ⟨b, cap, cur, rfl, rfl, h4, h5, h6, h7⟩
    · exact ⟨[], .inl h1, rfl, h2⟩
    · cases m with
      | zero =>
        refine ⟨[], .inr ⟨rfl, ?_, rfl, ⟨_, _, rfl, by omega, h5, .inl rfl⟩⟩, rfl, fun x hx => absurd hx (by simp)⟩
        rw [← h7]; simp
      | succ m => exact ⟨_, .inl h1, rfl, h2⟩
def subV (G : View) (bs : List Nat) : View := fun b => if b ∈ bs then none else G b
theorem subV_le (hG : VLe G0 G) {bs : List Nat} (h : ∀ b ∈ bs, G0 b = none) : VLe G0 (subV G bs) := by
  intro b o hb
  unfold subV
  rw [if_neg (fun hc => by rw [h b hc] at hb; cases hb)]
  exact hG b o hb
theorem K.take (hK : K e w G L) (hA : ∀ x ∈ A, G x.1 = some x.2) (hn : (A.map (·.1)).Nodup) : K e w (subV G (A.map (·.1))) (A ++ L) := by
  have hs : ∀ b o, (b, o) ∈ A → subV G (A.map (·.1)) b = none := fun b o h => if_pos (List.mem_map.2 ⟨_, h, rfl⟩)
  refine ⟨hK.tape, hK.os, hK.out, fun b o h => ?_, fun b o h => ?_, fun b o h => ?_, ?_⟩
  · unfold subV at h
    split at h
    · cases h
    · exact hK.view b o h
  · rcases List.mem_append.1 h with h | h
    · exact hK.view b o (hA _ h)
    · exact hK.own b o h
  · rcases List.mem_append.1 h with h | h
    · exact hs b o h
    · unfold subV; split
      · rfl
      · exact hK.sep b o h
  · rw [List.map_append, List.nodup_append]
    refine ⟨hn, hK.nodup, fun x hx y hy hxy => ?_⟩
    subst hxy
    obtain ⟨p, hp, rfl⟩ := List.mem_map.1 hx
    obtain ⟨q, hq, he⟩ := List.mem_map.1 hy
    have h1 := hA p hp
    have h2 := hK.sep q.1 q.2 hq
    rw [he] at h2
    rw [h1] at h2; cases h2
structure RnF (t : TypeId) (G0 G : View) (rs : List Rn) : Prop where
  new : ∀ x ∈ rs, New 1 t G0 G x.2.2.1 x.2.2.2.length (ints x.2.2.2)
  nd : (rs.flatMap fun x => bl x.2.2.1).Nodup
theorem RnF.mono (h : RnF t G0 G rs) (hG : VLe G G') : RnF t G0 G' rs := ⟨fun x hx => (h.new x hx).mono hG, h.nd⟩
theorem RnF.older (h : RnF t G1 G rs) (hG : VLe G0 G1) : RnF t G0 G rs := ⟨fun x hx => (h.new x hx).older hG, h.nd⟩
theorem RnF.nil : RnF t G0 G [] := ⟨fun _ h => absurd h (by simp), List.nodup_nil⟩
theorem RnF.sub {ps : List Rn} (h : RnF t G0 G rs) (hs : ps.Sublist rs) : RnF t G0 G ps :=
  ⟨fun x hx => h.new x (hs.subset hx), h.nd.sublist (by
    clear h
    induction hs with
    | slnil => exact List.Sublist.refl _
    | cons a _ ih => rw [List.flatMap_cons]; exact ih.trans (List.sublist_append_right _ _)
    | cons_cons a _ ih => rw [List.flatMap_cons, List.flatMap_cons]; exact (List.Sublist.refl _).append ih)⟩
theorem RnF.perm {ps : List Rn} (h : RnF t G0 G rs) (hp : ps.Perm rs) : RnF t G0 G ps :=
  ⟨fun x hx => h.new x (hp.subset hx), (hp.flatMap_right _).nodup_iff.2 h.nd⟩
theorem RnF.cons {x : Rn} (h : RnF t G0 G rs) (hx : New 1 t G0 G' x.2.2.1 x.2.2.2.length (ints x.2.2.2)) (hG : VLe G G') (hb : ∀ b ∈ bl x.2.2.1, G b = none) : RnF t G0 G' (x :: rs) := by
  refine ⟨fun y hy => ?_, ?_⟩
  · rcases List.mem_cons.1 hy with rfl | hy
    · exact hx
    · exact (h.new y hy).mono hG
  · rw [List.flatMap_cons, List.nodup_append]
    refine ⟨bl_nodup _, h.nd, fun b h1 b' h2 hbb => ?_⟩
    subst hbb
    obtain ⟨y, hy, hyb⟩ := List.mem_flatMap.1 h2
    obtain ⟨_, o, ho⟩ := (h.new y hy).fresh b hyb
    rw [hb b h1] at ho; cases ho
theorem RnF.set {x : Rn} {i : Nat} (h : RnF t G0 G rs) (hi : i < rs.length) (hx : New 1 t G0 G' x.2.2.1 x.2.2.2.length (ints x.2.2.2)) (hG : VLe G G') (hb : ∀ b ∈ bl x.2.2.1, G b = none) : RnF t G0 G' (rs.set i x) := by
  have e : rs.set i x = rs.take i ++ x :: rs.drop (i + 1) := by rw [List.set_eq_take_append_cons_drop, if_pos hi]
  rw [e]
  refine (RnF.cons (h.sub ?_) hx hG hb).perm List.perm_middle
  rw [← List.eraseIdx_eq_take_drop_succ]
  exact List.eraseIdx_sublist rs i
theorem RnF.ins {x : Rn} {ps qs : List Rn} (h : RnF t G0 G (ps ++ qs)) (hx : New 1 t G0 G' x.2.2.1 x.2.2.2.length (ints x.2.2.2)) (hG : VLe G G') (hb : ∀ b ∈ bl x.2.2.1, G b = none) : RnF t G0 G' (ps ++ x :: qs) :=
  (h.cons hx hG hb).perm List.perm_middle
theorem RnF.same {x : Rn} {i : Nat} (h : RnF t G0 G rs) (hi : i < rs.length) (h1 : x.2.2 = rs[i].2.2) : RnF t G0 G (rs.set i x) := by
  have e : (rs.set i x).map (fun y => y.2.2) = rs.map fun y => y.2.2 := by
    rw [List.map_set, h1]
    refine List.ext_getElem (by simp) fun j h2 h3 => ?_
    rw [List.getElem_set]
    split
    · rename_i hij; subst hij; simp
    · rfl
  have hf : ∀ (l : List Rn), (l.flatMap fun y => bl y.2.2.1) = (l.map fun y => y.2.2).flatMap fun z => bl z.1 := fun l => by rw [List.flatMap_map]
  refine ⟨fun y hy => ?_, by rw [hf, e, ← hf]; exact h.nd⟩
  have hm : y.2.2 ∈ rs.map fun y => y.2.2 := by rw [← e]; exact List.mem_map.2 ⟨y, hy, rfl⟩
  obtain ⟨z, hz, hzy⟩ := List.mem_map.1 hm
  rw [← hzy]; exact h.new z hz
def OZS (t : TypeId) (us : List (Value × List Int × Own)) : Prop := ∀ p ∈ us, OZ 1 t p.1 p.2.1.length (ints p.2.1) p.2.2
theorem RnF.own (h : RnF t G0 G rs) : ∃ os : List Ron, toRs os = rs ∧ OZS t (uso os) ∧ (flat (uso os)).map (·.1) = (rs.flatMap fun x => bl x.2.2.1) ∧ ∀ x ∈ flat (uso os), G0 x.1 = none ∧ G x.1 = some x.2 := by
  have hn := h.new
  clear h
  induction rs with
  | nil => exact ⟨[], rfl, fun _ h => absurd h (by simp [uso]), rfl, fun _ h => absurd h (by simp [uso, flat])⟩
  | cons x rs ih =>
    obtain ⟨os, h1, h2, h3, h4⟩ := ih fun y hy => hn y (List.mem_cons_of_mem _ hy)
    obtain ⟨A, g1, g2, g3⟩ := (hn x (List.mem_cons_self ..)).oz
    refine ⟨(x.1, x.2.1, x.2.2.1, x.2.2.2, A) :: os, by rw [← h1]; rfl, fun p hp => ?_, ?_, fun y hy => ?_⟩
    · rcases List.mem_cons.1 (show p ∈ (x.2.2.1, x.2.2.2, A) :: uso os from hp) with rfl | hp
      · exact g1
      · exact h2 p hp
    · show (((x.2.2.1, x.2.2.2, A) :: uso os).flatMap (·.2.2)).map (·.1) = _
      rw [List.flatMap_cons, List.flatMap_cons, List.map_append, g2, ← h3]; rfl
    · rcases List.mem_append.1 (show y ∈ A ++ flat (uso os) from hy) with hy | hy
      · exact g3 y hy
      · exact h4 y hy
end
open Go
abbrev It := Int × Int
def ic (x : It) : List Value := [.int .i64 x.1, .int .i64 x.2]
abbrev ItS := SlR 2 (EF ic)
theorem ItS.mono {G G' : View} {v : Value} {xs : List It} (h : ItS G v xs) (hG : VLe G G') : ItS G' v xs := EF.mono h hG
def keys (xs : List It) : List Int := xs.map (·.1)
def ItOk (xs : List It) : Prop := (∀ x ∈ xs, 0 ≤ x.2 ∧ x.2 ≤ 99) ∧ Asc (keys xs)
structure Wd where
  now : Int
  ring : List Nd
  leases : List Ls
  items : List It
  scan : Sn
  since : List Int
def SiOk (w : Wd) : Prop := ∀ k ∈ w.since, k ∈ keys w.items ∧ (k < w.scan.1 → k ∈ w.scan.2)
def WdOk (w : Wd) : Prop := Tm w.now ∧ RgSafe w.ring ∧ LsOk w.leases ∧ ItOk w.items ∧ SnOk w.scan ∧ Asc w.since ∧ SiOk w
def wdZ : Wd := ⟨0, [], [], [], (0, []), []⟩
def own (w : Wd) (k : Int) : Int := if (lsAt w.leases k).2.2 < w.now ∨ (lsAt w.leases k).2.1 ∉ ids w.ring then -1 else (lsAt w.leases k).2.1
structure Wv where
  now : Int
  r : Value
  l : Value
  i : Value
  next : Int
  t : Value
  s : Value
def wc (W : Wv) : List Value := [.int .i64 W.now, W.r, W.l, W.i, .int .i64 W.next, W.t, W.s]
structure WdS (G : View) (lc : Ls → List Value) (W : Wv) (w : Wd) (rs : List Rn) : Prop where
  now : W.now = w.now
  ring : RngS G W.r rs
  rg : rgl rs = w.ring
  leases : SlR 3 (EF lc) G W.l w.leases
  items : ItS G W.i w.items
  next : W.next = w.scan.1
  told : IntS G W.t w.scan.2
  since : IntS G W.s w.since
theorem WdS.mono {G G' : View} {lc : Ls → List Value} {W : Wv} {w : Wd} {rs : List Rn} (h : WdS G lc W w rs) (hG : VLe G G') : WdS G' lc W w rs :=
  ⟨h.now, h.ring.mono hG, h.rg, EF.mono h.leases hG, h.items.mono hG, h.next, h.told.mono hG, h.since.mono hG⟩
theorem keys_len (xs : List It) : (keys xs).length = xs.length := by simp [keys]
theorem keys_snoc (xs : List It) (x : It) : keys (xs ++ [x]) = keys xs ++ [x.1] := by simp [keys]
section
variable {e w : World} {G : View} {L : Own} {P : Program} {n : Nat} {f : Sl} {dst : Option Nat} {ty : TypeId} {pos : String} {af : Array Edge} {g : Option (Nat × Bool)}
theorem lsP {T sz : Nat} {x : Operand} {b t o : Nat} {cs u : List Value} (hK : K e w G L) (h1 : AggC P T) (hs : (P.info? T).map (·.size) = some sz) (k : Nat) (hn : L[k]? = some (b, row cs t))
    (hp : ev n f x = .pointer (some ⟨b, o, none⟩)) (hl : u.length = sz) (hu : (cs.drop o).take u.length = u) : St P n ⟨dst, .load T x, ty, pos, af, g⟩ f w (.agg u.toArray) w :=
  lsC h1 hs hp hl fun j c hj => by
    rw [row_cell (hK.own _ _ (List.mem_of_getElem? hn))]
    have hlt := (List.getElem?_eq_some_iff.1 hj).1
    rw [← hu, List.getElem?_take, if_pos hlt, List.getElem?_drop] at hj
    exact hj
end
def idN (xs : List Int) (i : Nat) : Nd := (xs.getD i 0, xs.getD (((i : Int) + xs.length - 1) % xs.length).toNat 0, [xs.getD (((i : Int) + 1) % xs.length).toNat 0, xs.getD (((i : Int) + 2) % xs.length).toNat 0])
def idl (xs : List Int) : List Nd := (List.range xs.length).map (idN xs)
def idTo (xs : List Int) (i : Nat) : List Nd := (List.range i).map (idN xs)
theorem idTo_succ (xs : List Int) (i : Nat) : idTo xs (i + 1) = idTo xs i ++ [idN xs i] := by unfold idTo; rw [List.range_succ, List.map_append]; rfl
def NdsOk (xs : List Int) : Prop := (1 ≤ xs.length ∧ xs.length ≤ 10) ∧ Asc xs
theorem md {a n : Int} (h : 0 < n) : 0 ≤ a % n ∧ a % n < n := ⟨Int.emod_nonneg _ (by omega), Int.emod_lt_of_pos _ h⟩
theorem getD_of {xs : List Int} {i : Nat} (h : i < xs.length) : xs[i] = xs.getD i 0 := by rw [List.getD_eq_getElem?_getD, List.getElem?_eq_getElem h]; rfl
def newW (xs : List Int) : Wd := ⟨0, idl xs, xs.map (fun k => (k, k, 20)), [], (0, []), []⟩
def afl (xs : List Int) (i : Nat) : List Int := [xs.getD (((i : Int) + 1) % xs.length).toNat 0, xs.getD (((i : Int) + 2) % xs.length).toNat 0]
theorem afl_succ (xs : List Int) (i k : Nat) (h : k < 2) : (afl xs i).take k ++ [xs.getD (((i : Int) + ((k : Int) + 1)) % xs.length).toNat 0] = (afl xs i).take (k + 1) := by
  match k, h with
  | 0, _ => rfl
  | 1, _ => rfl
theorem nd_eq {x y : Rn} (h1 : x.1 = y.1) (h2 : x.2.1 = y.2.1) (h3 : x.2.2.2 = y.2.2.2) : nd x = nd y := by unfold nd; rw [h1, h2, h3]
section
variable {P : Program} {n : Nat} {f : Sl} {w : World} {dst : Option Tmp} {ty : TypeId} {pos : String} {af : Array Edge} {g : Option (Nat × Bool)}
end
theorem wd_eq {a b : Wd} (h1 : a.now = b.now) (h2 : a.ring = b.ring) (h3 : a.leases = b.leases) (h4 : a.items = b.items) (h5 : a.scan = b.scan) (h6 : a.since = b.since) : a = b := by
  cases a; cases b; simp_all
def nxt (xs : List Int) (k : Int) : Int := (xs.find? (fun x => decide (x ≥ k))).getD (xs.getD 0 0)
theorem SlR.lit0 {α : Type} {sz : Nat} {E : View → List Value → α → Prop} {G : View} {p : Option Addr} : SlR sz E G (.slice p 0 0) [] := ⟨⟨p, 0, rfl, Nat.le_refl _, Nat.zero_le _, .inl rfl⟩, fun i x h => by simp at h⟩
theorem WdS.zero {G : View} {lc : Ls → List Value} : WdS G lc ⟨0, .slice none 0 0, .slice none 0 0, .slice none 0 0, 0, .slice none 0 0, .slice none 0 0⟩ wdZ [] :=
  ⟨rfl, RngS.lit, rfl, SlR.lit0, SlR.lit0, rfl, SlR.lit0, SlR.lit0⟩
theorem ids_idl (xs : List Int) : ids (idl xs) = xs := by
  unfold ids idl
  rw [List.map_map]
  apply List.ext_getElem
  · simp
  · intro i h1 h2
    simp only [List.getElem_map, List.getElem_range, Function.comp]
    unfold idN
    exact (getD_of h2).symm
theorem Asc.ins {xs : List Int} (h : Asc xs) {p : Int} {k : Nat} (hp : Pt p) (_ : k ≤ xs.length) (h1 : ∀ x ∈ xs.take k, x < p) (h2 : ∀ hk : k < xs.length, ¬ xs[k] < p) (hn : p ∉ xs) : Asc (xs.take k ++ p :: xs.drop k) := by
  refine ⟨fun x hx => ?_, ?_⟩
  · rcases List.mem_append.1 hx with hx | hx
    · exact h.1 x (List.mem_of_mem_take hx)
    · rcases List.mem_cons.1 hx with rfl | hx
      · exact hp
      · exact h.1 x (List.mem_of_mem_drop hx)
  · have h0 := h.2
    rw [← List.take_append_drop k xs, List.pairwise_append] at h0
    rw [List.pairwise_append, List.pairwise_cons]
    have hd : ∀ x ∈ xs.drop k, p < x := fun x hx => by
      rcases Nat.lt_or_ge k xs.length with hlt | hge
      · rw [List.drop_eq_getElem_cons hlt] at hx
        have h3 := h2 hlt
        have hne : p ≠ xs[k] := fun e => hn (e ▸ List.getElem_mem hlt)
        rcases List.mem_cons.1 hx with rfl | hx
        · omega
        · have h4 := h0.2.1
          rw [List.drop_eq_getElem_cons hlt, List.pairwise_cons] at h4
          have := h4.1 x hx
          simp only [id] at this; omega
      · rw [List.drop_eq_nil_of_le hge] at hx; cases hx
    refine ⟨h0.1, ⟨fun x hx => hd x hx, h0.2.1⟩, fun x hx y hy => ?_⟩
    rcases List.mem_cons.1 hy with rfl | hy
    · exact h1 x hx
    · exact h0.2.2 x hx y hy
open Go Go.ChangeShapes Go.WideShapes Go.RowKit
section
variable {H : Type} {enc : TypeId × Value → H} {P : Program} {w : World} {base : Nat} {held : Bool}
variable {t : TypeId} {fs : Array Field} {f : Field} {fuel i o k : Nat} {cs : List Value} {x : DataW H × List MemPlace}
theorem read_ev {spare : Nat → Bool} {f0 f1 f2 f3 : Field} (ht : P.underlying t = some (.struct #[f0, f1, f2, f3])) (hc : P.cellsOf t = 4)
    (h0 : f0.offset = 0 ∧ P.cellsOf f0.type = 1 ∧ P.underlying f0.type = some (.int .i64)) (h1 : f1.offset = 1 ∧ P.cellsOf f1.type = 1 ∧ P.underlying f1.type = some (.int .i64))
    (h2 : f2.offset = 2 ∧ P.cellsOf f2.type = 1 ∧ P.underlying f2.type = some (.int .i64)) (h3 : f3.offset = 3 ∧ P.cellsOf f3.type = 1 ∧ P.underlying f3.type = some (.int .i64)) (hl : cs.length = 4)
    (h : DataW.trod enc P w base spare held fuel t cs = some x) : ∃ a b c d, cs = [.int .i64 a, .int .i64 b, .int .i64 c, .int .i64 d] := by
  obtain ⟨a, ha⟩ := read_int (i := 0) ht rfl h0.1 h0.2.1 (by omega) h0.2.2 h
  obtain ⟨b, hb⟩ := read_int (i := 1) ht rfl h1.1 h1.2.1 (by omega) h1.2.2 h
  obtain ⟨c, hcc⟩ := read_int (i := 2) ht rfl h2.1 h2.2.1 (by omega) h2.2.2 h
  obtain ⟨d, hd⟩ := read_int (i := 3) ht rfl h3.1 h3.2.1 (by omega) h3.2.2 h
  refine ⟨a, b, c, d, ?_⟩
  match cs, hl with
  | [p, q, r, s], _ => simp at ha hb hcc hd; subst ha; subst hb; subst hcc; subst hd; rfl
end
theorem Asc.mono {xs : List Int} (h : Asc xs) {i j : Nat} (hi : i < xs.length) (hj : j < xs.length) : xs[i] < xs[j] ↔ i < j := by
  have hp := List.pairwise_iff_getElem.1 h.2
  constructor
  · intro hl
    rcases Nat.lt_trichotomy i j with h1 | h1 | h1
    · exact h1
    · subst h1; omega
    · have := hp j i hj hi h1; simp only [id] at this; omega
  · intro hl
    exact hp i j hi hj hl
theorem Asc.next {xs : List Int} (h : Asc xs) (h3 : 3 ≤ xs.length) {i : Nat} (hi : i < xs.length) {k : Int} (hk : k ∈ xs) : btw xs[i] k (xs[(i + 1) % xs.length]'(Nat.mod_lt _ (by omega))) = false := by
  obtain ⟨j, hj, rfl⟩ := List.getElem_of_mem hk
  have hm := Nat.mod_lt (i + 1) (show xs.length > 0 by omega)
  have h1 := h.mono hi hj
  have h2 := h.mono hj hm
  have h4 := h.mono hi hm
  rcases Nat.lt_or_ge (i + 1) xs.length with hc | hc
  · have e : (i + 1) % xs.length = i + 1 := Nat.mod_eq_of_lt hc
    have : i < (i + 1) % xs.length := by omega
    unfold btw
    rw [if_pos (h4.2 this)]
    refine decide_eq_false ?_
    rintro ⟨g1, g2⟩
    have := h1.1 g1
    have := h2.1 g2
    omega
  · have e : (i + 1) % xs.length = 0 := by rw [show i + 1 = xs.length by omega]; exact Nat.mod_self _
    unfold btw
    rw [if_neg (fun g => by have := h4.1 g; omega)]
    refine decide_eq_false ?_
    rintro (g | g)
    · have := h1.1 g; omega
    · have := h2.1 g; omega
theorem idx_mod (a n : Nat) : ((a : Int) % (n : Int)).toNat = a % n := rfl
theorem idN_eq {xs : List Int} (h3 : 3 ≤ xs.length) {i : Nat} (hi : i < xs.length) :
    idN xs i = (xs[i], xs[(i + xs.length - 1) % xs.length]'(Nat.mod_lt _ (by omega)), [xs[(i + 1) % xs.length]'(Nat.mod_lt _ (by omega)), xs[((i + 1) % xs.length + 1) % xs.length]'(Nat.mod_lt _ (by omega))]) := by
  have e1 : (((i : Int) + xs.length - 1) % xs.length).toNat = (i + xs.length - 1) % xs.length := by
    rw [show ((i : Int) + xs.length - 1) = ((i + xs.length - 1 : Nat) : Int) by omega]; rfl
  have e3 : (((i : Int) + 2) % xs.length).toNat = ((i + 1) % xs.length + 1) % xs.length := by
    rw [show ((i : Int) + 2) = ((i + 2 : Nat) : Int) by omega, idx_mod, Nat.mod_add_mod]
  have e2 : (((i : Int) + 1) % xs.length).toNat = (i + 1) % xs.length := rfl
  unfold idN
  rw [e1, e2, e3, ← getD_of hi, ← getD_of (Nat.mod_lt _ (by omega)), ← getD_of (Nat.mod_lt _ (by omega)), ← getD_of (Nat.mod_lt _ (by omega))]
theorem mem_idl {xs : List Int} {x : Nd} (h : x ∈ idl xs) : ∃ i, i < xs.length ∧ x = idN xs i := by
  obtain ⟨i, hi, rfl⟩ := List.mem_map.1 h
  exact ⟨i, List.mem_range.1 hi, rfl⟩
theorem idl_ok {xs : List Int} (h : NdsOk xs) (h3 : 3 ≤ xs.length) : RgOk (idl xs) := by
  refine ⟨by have := h.1.2; simp [idl]; omega, fun x hx => ?_, ?_⟩
  · obtain ⟨i, hi, rfl⟩ := mem_idl hx
    rw [idN_eq h3 hi]
    refine ⟨h.2.pt _, .inr (h.2.pt _), rfl, fun k hk => ?_⟩
    simp only [List.mem_cons, List.not_mem_nil, or_false] at hk
    rcases hk with rfl | rfl
    · exact h.2.pt _
    · exact h.2.pt _
  · have := h.2.2
    rw [← ids_idl xs] at this
    exact List.pairwise_map.1 this
theorem idl_skn {xs : List Int} (h : NdsOk xs) (h3 : 3 ≤ xs.length) {x : Nd} (hx : x ∈ idl xs) {k : Int} (hk : k ∈ xs) : skn x k = false := by
  obtain ⟨i, hi, rfl⟩ := mem_idl hx
  rw [idN_eq h3 hi, skn2 rfl]
  have hm := Nat.mod_lt (i + 1) (show xs.length > 0 by omega)
  have h1 := h.2.next h3 hi hk
  have h2 := h.2.next h3 hm hk
  show (btw _ _ (xs[(i + 1) % xs.length]) || btw (xs[(i + 1) % xs.length]) k (xs[((i + 1) % xs.length + 1) % xs.length]'(Nat.mod_lt _ (by omega)))) = false
  rw [h1, h2]; rfl
theorem idl_safe {xs : List Int} (h : NdsOk xs) (h3 : 3 ≤ xs.length) : RgSafe (idl xs) := by
  refine ⟨idl_ok h h3, fun x hx => ?_, ?_⟩
  · obtain ⟨i, hi, rfl⟩ := mem_idl hx
    rw [idN_eq h3 hi, ids_idl]
    exact ⟨_, List.mem_cons_self .., List.getElem_mem _⟩
  · have : prin (idl xs) = xs := by
      unfold prin
      rw [ids_idl, List.filter_eq_self]
      intro k hk
      rw [Bool.not_eq_true', List.any_eq_false]
      intro x hx
      rw [idl_skn h h3 hx hk]; simp
    rw [this]; exact h3
theorem newLs_ok {xs : List Int} (h : NdsOk xs) {t : Int} (ht : Tm t) : LsOk (xs.map fun k => (k, k, t)) := by
  refine ⟨by have := h.1; simp; omega, fun x hx => ?_, List.pairwise_map.2 h.2.2⟩
  obtain ⟨k, hk, rfl⟩ := List.mem_map.1 hx
  exact ⟨h.2.1 k hk, h.2.1 k hk, ht⟩
theorem newW_ok {xs : List Int} (h : NdsOk xs) (h3 : 3 ≤ xs.length) : WdOk (newW xs) :=
  ⟨(show Tm 0 from ⟨by decide, by decide⟩), idl_safe h h3, newLs_ok h ⟨by decide, by decide⟩, ⟨(fun _ hx => by cases hx), Asc.nil⟩, SnOk.zero, Asc.nil, (fun _ hk => by cases hk)⟩
end Go.Ro
