/- Owned rings, shown and taken back. Memory that is new since a view: slices, rings. Worlds in plain lists. Conditions: those that each row states. -/
import Derived.Test.YtmgggljicpmndaaGreatRgS
namespace Go.Ro
open Go
theorem cellV_row {G : View} {b : Nat} {l : List Value} {t : TypeId} (h : G b = some (row l t)) (o : Nat) : cellV G ⟨b, o, none⟩ = l[o]? := by
  unfold cellV; simp only [h]; simp [row]
theorem OR.all {e w : World} {G : View} {L A : Own} {t s sb : Nat} {v : Value} {rs : List Rn} (ho : OR G t v rs A) (hK : K e w G ((sb, row [v] s) :: (A ++ L))) :
    ∃ Gf, VLe G Gf ∧ RngS Gf v rs ∧ cellV Gf ⟨sb, 0, none⟩ = some v ∧ K e w Gf L ∧ (∀ w' L', K e w' Gf L' → K e w' G ((sb, row [v] s) :: (A ++ L'))) := by
  have h0 : K e w G (A ++ ((sb, row [v] s) :: L)) := K.mid (A := [_]) (B := A) hK
  have h1 : K e w (addV G A) ([(sb, row [v] s)] ++ L) := h0.pub
  have h2 := h1.pub
  refine ⟨_, h0.addV_le.trans h1.addV_le, (ho.fr h0).mono h1.addV_le, ?_, h2, fun w' L' h' => K.mid (A := A) (B := [_]) (h0.unpub' (h1.unpub' h'))⟩
  exact cellV_row (addV_mem (by simp) (List.mem_cons_self ..)) 0
theorem NdA.of' {G : View} {v : Value} {rs : List Rn} {id : Int} (hv : RngS G v rs) (hs : RgSafe (rgl rs)) (h : id ∈ ids (rgl rs)) : ∃ i, NdA G rs id i := NdA.of hv hs.1 h
theorem nAt_of {G : View} {v : Value} {rs : List Rn} {id : Int} {i : Nat} (h : NdA G rs id i) : nAt v (rgl rs) id = some (elA v (i * 3)) := by rw [nAt_in h.mem, h.hfx]
theorem K.dropL' {e w : World} {G : View} {A L : Own} (hK : K e w G (A ++ L)) : K e w G L := K.dropL hK
theorem NdA.aftE {G : View} {rs : List Rn} {id : Int} {i : Nat} (hn : NdA G rs id i) : (rs[i]'hn.lt).2.2.2 = (ndAt (rgl rs) id).2.2 := by rw [← hn.hnd]; rfl
theorem NdA.set {G : View} {rs : List Rn} {id : Int} {i : Nat} (hn : NdA G rs id i) {y : Rn} {n : Nd} (h : nd y = n) : setN (rgl rs) id n = rgl (rs.set i y) := by
  rw [rgl_set, h]; unfold setN; rw [hn.hfx]
theorem NdA.setBef {G : View} {rs : List Rn} {id : Int} {i : Nat} (hn : NdA G rs id i) (b : Int) : setN (rgl rs) id (id, b, (ndAt (rgl rs) id).2.2) = rgl (rs.set i ((rs[i]'hn.lt).1, b, (rs[i]'hn.lt).2.2.1, (rs[i]'hn.lt).2.2.2)) :=
  hn.set (by unfold nd; simp only; rw [hn.hid, hn.aftE])
theorem NdA.setAft {G : View} {rs : List Rn} {id : Int} {i : Nat} (hn : NdA G rs id i) (u : Value) (l : List Int) : setN (rgl rs) id (id, (ndAt (rgl rs) id).2.1, l) = rgl (rs.set i ((rs[i]'hn.lt).1, (rs[i]'hn.lt).2.1, u, l)) :=
  hn.set (by unfold nd; simp only; rw [hn.hid, hn.bef])
theorem rgl_ir {rs : List Rn} {i : Nat} (_ : i < rs.length) {a b : Int} {u v : Value} {l : List Int} : rgl (rs.set i (a, b, u, l)) = rgl (rs.set i (a, b, v, l)) := by
  rw [rgl_set, rgl_set]; rfl
theorem OR.cid {e w : World} {G G' : View} {L A : Own} {t : Nat} {v : Value} {rs : List Rn} {id : Int} {i : Nat} (h : OR G t v rs A) (hK : K e w G (A ++ L)) (hn : NdA G' rs id i) : w.cell? (elA v (i * 3 + 0)) = some (.int .i64 id) := by
  have := h.cell hK hn.lt 0 rfl
  rw [hn.hid] at this; exact this
open Go
section
variable {e w w' : World} {G G' G0 G1 : View} {L A B : Own} {sz t m : Nat} {v : Value} {cs : List Value} {rs : List Rn}
def bl : Value → List Nat
  | .slice (some a) (_ + 1) _ => [a.block]
  | _ => []
def New (sz : Nat) (t : TypeId) (G0 G : View) (v : Value) (m : Nat) (cs : List Value) : Prop :=
  (m = 0 ∧ cs = [] ∧ SlW v 0) ∨ ∃ A, OS sz t v m cs A ∧ ∀ x ∈ A, G0 x.1 = none ∧ G x.1 = some x.2
theorem New.mono (h : New sz t G0 G v m cs) (hG : VLe G G') : New sz t G0 G' v m cs := by
  rcases h with h | ⟨A, h1, h2⟩
  · exact .inl h
  · exact .inr ⟨A, h1, fun x hx => ⟨(h2 x hx).1, hG _ _ (h2 x hx).2⟩⟩
theorem VLe.none (h : VLe G0 G1) {b : Nat} (hb : G1 b = none) : G0 b = none := by
  cases hc : G0 b with
  | none => rfl
  | some o => rw [h b o hc] at hb; cases hb
theorem New.older (h : New sz t G1 G v m cs) (hG : VLe G0 G1) : New sz t G0 G v m cs := by
  rcases h with h | ⟨A, h1, h2⟩
  · exact .inl h
  · exact .inr ⟨A, h1, fun x hx => ⟨hG.none (h2 x hx).1, (h2 x hx).2⟩⟩
theorem addV_in (hK : K e w G (A ++ L)) {x : Nat × Obj} (hx : x ∈ A) : addV G A x.1 = some x.2 :=
  addV_mem (by have := hK.nodup; rw [List.map_append] at this; exact (List.nodup_append.1 this).1) hx
theorem New.own (ho : OS sz t v m cs A) (hK : K e w G (A ++ L)) (hG : VLe G0 G) : New sz t G0 (addV G A) v m cs :=
  .inr ⟨A, ho, fun x hx => ⟨hG.none (hK.sep x.1 x.2 (List.mem_append_left _ hx)), addV_in hK hx⟩⟩
theorem OS.bl (h : OS sz t v m cs A) : ∀ b ∈ bl v, ∃ o, (b, o) ∈ A := by
  rcases h.2 with ⟨rfl, _, _⟩ | ⟨b, cap, cur, rfl, rfl, _⟩
  · intro b hb; simp [Ro.bl] at hb
  · intro b' hb
    cases m with
    | zero => simp [Ro.bl] at hb
    | succ m => simp [Ro.bl] at hb; subst hb; exact ⟨_, List.mem_singleton.2 rfl⟩
theorem SlW.bl (h : SlW v 0) : Ro.bl v = [] := by
  obtain ⟨a, c, rfl, _⟩ := h
  cases a <;> rfl
theorem New.fresh (h : New sz t G0 G v m cs) : ∀ b ∈ bl v, G0 b = none ∧ ∃ o, G b = some o := by
  rcases h with ⟨_, _, h⟩ | ⟨A, h1, h2⟩
  · rw [h.bl]; intro b hb; exact absurd hb (by simp)
  · intro b hb
    obtain ⟨o, ho⟩ := h1.bl b hb
    exact ⟨(h2 _ ho).1, o, (h2 _ ho).2⟩
theorem bl_nodup (v : Value) : (bl v).Nodup := by
  unfold bl; split <;> simp
def OZ (sz : Nat) (t : TypeId) (v : Value) (m : Nat) (cs : List Value) (A : Own) : Prop :=
  OS sz t v m cs A ∨ (m = 0 ∧ cs = [] ∧ A = [] ∧ SlW v 0)
theorem OZ.os (h : OZ sz t v m cs A) (hm : 0 < m) : OS sz t v m cs A := by
  rcases h with h | ⟨h, _⟩
  · exact h
  · omega
theorem OZ.slw (h : OZ sz t v m cs A) : SlW v m := by
  rcases h with h | ⟨rfl, _, _, h⟩
  · exact h.slw
  · exact h
theorem OZ.nodup (h : OZ sz t v m cs A) : (A.map (·.1)).Nodup := by
  rcases h with h | ⟨_, _, rfl, _⟩
  · exact h.nodup
  · simp
theorem New.oz (h : New sz t G0 G v m cs) : ∃ A, OZ sz t v m cs A ∧ A.map (·.1) = bl v ∧ ∀ x ∈ A, G0 x.1 = none ∧ G x.1 = some x.2 := by
  rcases h with ⟨h1, h2, h3⟩ | ⟨A, h1, h2⟩
  · exact ⟨[], .inr ⟨h1, h2, rfl, h3⟩, by rw [h3.bl]; rfl, fun x hx => absurd hx (by simp)⟩
  · rcases h1.2 with ⟨rfl, rfl, rfl⟩ | ⟨b, cap, cur, rfl, rfl, h4, h5, h6, h7⟩
    · exact ⟨[], .inl h1, rfl, h2⟩
    · cases m with
      | zero =>
        refine ⟨[], .inr ⟨rfl, ?_, rfl, ⟨_, _, rfl, by omega, h5, .inl rfl⟩⟩, rfl, fun x hx => absurd hx (by simp)⟩
        rw [← h7]; simp
      | succ m => exact ⟨_, .inl h1, rfl, h2⟩
def subV (G : View) (bs : List Nat) : View := fun b => if b ∈ bs then none else G b
theorem subV_le (hG : VLe G0 G) {bs : List Nat} (h : ∀ b ∈ bs, G0 b = none) : VLe G0 (subV G bs) := by
  intro b o hb
  unfold subV
  rw [if_neg (fun hc => by rw [h b hc] at hb; cases hb)]
  exact hG b o hb
theorem K.take (hK : K e w G L) (hA : ∀ x ∈ A, G x.1 = some x.2) (hn : (A.map (·.1)).Nodup) : K e w (subV G (A.map (·.1))) (A ++ L) := by
  have hs : ∀ b o, (b, o) ∈ A → subV G (A.map (·.1)) b = none := fun b o h => if_pos (List.mem_map.2 ⟨_, h, rfl⟩)
  refine ⟨hK.tape, hK.os, hK.out, fun b o h => ?_, fun b o h => ?_, fun b o h => ?_, ?_⟩
  · unfold subV at h
    split at h
    · cases h
    · exact hK.view b o h
  · rcases List.mem_append.1 h with h | h
    · exact hK.view b o (hA _ h)
    · exact hK.own b o h
  · rcases List.mem_append.1 h with h | h
    · exact hs b o h
    · unfold subV; split
      · rfl
      · exact hK.sep b o h
  · rw [List.map_append, List.nodup_append]
    refine ⟨hn, hK.nodup, fun x hx y hy hxy => ?_⟩
    subst hxy
    obtain ⟨p, hp, rfl⟩ := List.mem_map.1 hx
    obtain ⟨q, hq, he⟩ := List.mem_map.1 hy
    have h1 := hA p hp
    have h2 := hK.sep q.1 q.2 hq
    rw [he] at h2
    rw [h1] at h2; cases h2
structure RnF (t : TypeId) (G0 G : View) (rs : List Rn) : Prop where
  new : ∀ x ∈ rs, New 1 t G0 G x.2.2.1 x.2.2.2.length (ints x.2.2.2)
  nd : (rs.flatMap fun x => bl x.2.2.1).Nodup
theorem RnF.mono (h : RnF t G0 G rs) (hG : VLe G G') : RnF t G0 G' rs := ⟨fun x hx => (h.new x hx).mono hG, h.nd⟩
theorem RnF.older (h : RnF t G1 G rs) (hG : VLe G0 G1) : RnF t G0 G rs := ⟨fun x hx => (h.new x hx).older hG, h.nd⟩
theorem RnF.nil : RnF t G0 G [] := ⟨fun _ h => absurd h (by simp), List.nodup_nil⟩
theorem RnF.sub {ps : List Rn} (h : RnF t G0 G rs) (hs : ps.Sublist rs) : RnF t G0 G ps :=
  ⟨fun x hx => h.new x (hs.subset hx), h.nd.sublist (by
    clear h
    induction hs with
    | slnil => exact List.Sublist.refl _
    | cons a _ ih => rw [List.flatMap_cons]; exact ih.trans (List.sublist_append_right _ _)
    | cons_cons a _ ih => rw [List.flatMap_cons, List.flatMap_cons]; exact (List.Sublist.refl _).append ih)⟩
theorem RnF.perm {ps : List Rn} (h : RnF t G0 G rs) (hp : ps.Perm rs) : RnF t G0 G ps :=
  ⟨fun x hx => h.new x (hp.subset hx), (hp.flatMap_right _).nodup_iff.2 h.nd⟩
theorem RnF.cons {x : Rn} (h : RnF t G0 G rs) (hx : New 1 t G0 G' x.2.2.1 x.2.2.2.length (ints x.2.2.2)) (hG : VLe G G') (hb : ∀ b ∈ bl x.2.2.1, G b = none) : RnF t G0 G' (x :: rs) := by
  refine ⟨fun y hy => ?_, ?_⟩
  · rcases List.mem_cons.1 hy with rfl | hy
    · exact hx
    · exact (h.new y hy).mono hG
  · rw [List.flatMap_cons, List.nodup_append]
    refine ⟨bl_nodup _, h.nd, fun b h1 b' h2 hbb => ?_⟩
    subst hbb
    obtain ⟨y, hy, hyb⟩ := List.mem_flatMap.1 h2
    obtain ⟨_, o, ho⟩ := (h.new y hy).fresh b hyb
    rw [hb b h1] at ho; cases ho
theorem RnF.set {x : Rn} {i : Nat} (h : RnF t G0 G rs) (hi : i < rs.length) (hx : New 1 t G0 G' x.2.2.1 x.2.2.2.length (ints x.2.2.2)) (hG : VLe G G') (hb : ∀ b ∈ bl x.2.2.1, G b = none) : RnF t G0 G' (rs.set i x) := by
  have e : rs.set i x = rs.take i ++ x :: rs.drop (i + 1) := by rw [List.set_eq_take_append_cons_drop, if_pos hi]
  rw [e]
  refine (RnF.cons (h.sub ?_) hx hG hb).perm List.perm_middle
  rw [← List.eraseIdx_eq_take_drop_succ]
  exact List.eraseIdx_sublist rs i
theorem RnF.same {x : Rn} {i : Nat} (h : RnF t G0 G rs) (hi : i < rs.length) (h1 : x.2.2 = rs[i].2.2) : RnF t G0 G (rs.set i x) := by
  have e : (rs.set i x).map (fun y => y.2.2) = rs.map fun y => y.2.2 := by
    rw [List.map_set, h1]
    refine List.ext_getElem (by simp) fun j h2 h3 => ?_
    rw [List.getElem_set]
    split
    · rename_i hij; subst hij; simp
    · rfl
  have hf : ∀ (l : List Rn), (l.flatMap fun y => bl y.2.2.1) = (l.map fun y => y.2.2).flatMap fun z => bl z.1 := fun l => by rw [List.flatMap_map]
  refine ⟨fun y hy => ?_, by rw [hf, e, ← hf]; exact h.nd⟩
  have hm : y.2.2 ∈ rs.map fun y => y.2.2 := by rw [← e]; exact List.mem_map.2 ⟨y, hy, rfl⟩
  obtain ⟨z, hz, hzy⟩ := List.mem_map.1 hm
  rw [← hzy]; exact h.new z hz
def OZS (t : TypeId) (us : List (Value × List Int × Own)) : Prop := ∀ p ∈ us, OZ 1 t p.1 p.2.1.length (ints p.2.1) p.2.2
theorem RnF.own (h : RnF t G0 G rs) : ∃ os : List Ron, toRs os = rs ∧ OZS t (uso os) ∧ (flat (uso os)).map (·.1) = (rs.flatMap fun x => bl x.2.2.1) ∧ ∀ x ∈ flat (uso os), G0 x.1 = none ∧ G x.1 = some x.2 := by
  have hn := h.new
  clear h
  induction rs with
  | nil => exact ⟨[], rfl, fun _ h => absurd h (by simp [uso]), rfl, fun _ h => absurd h (by simp [uso, flat])⟩
  | cons x rs ih =>
    obtain ⟨os, h1, h2, h3, h4⟩ := ih fun y hy => hn y (List.mem_cons_of_mem _ hy)
    obtain ⟨A, g1, g2, g3⟩ := (hn x (List.mem_cons_self ..)).oz
    refine ⟨(x.1, x.2.1, x.2.2.1, x.2.2.2, A) :: os, by rw [← h1]; rfl, fun p hp => ?_, ?_, fun y hy => ?_⟩
    · rcases List.mem_cons.1 (show p ∈ (x.2.2.1, x.2.2.2, A) :: uso os from hp) with rfl | hp
      · exact g1
      · exact h2 p hp
    · show (((x.2.2.1, x.2.2.2, A) :: uso os).flatMap (·.2.2)).map (·.1) = _
      rw [List.flatMap_cons, List.flatMap_cons, List.map_append, g2, ← h3]; rfl
    · rcases List.mem_append.1 (show y ∈ A ++ flat (uso os) from hy) with hy | hy
      · exact g3 y hy
      · exact h4 y hy
end
open Go
abbrev It := Int × Int
def ic (x : It) : List Value := [.int .i64 x.1, .int .i64 x.2]
abbrev ItS := SlR 2 (EF ic)
theorem ItS.mono {G G' : View} {v : Value} {xs : List It} (h : ItS G v xs) (hG : VLe G G') : ItS G' v xs := EF.mono h hG
def keys (xs : List It) : List Int := xs.map (·.1)
def ItOk (xs : List It) : Prop := (∀ x ∈ xs, 0 ≤ x.2 ∧ x.2 ≤ 99) ∧ Asc (keys xs)
structure Wd where
  now : Int
  ring : List Nd
  leases : List Ls
  items : List It
  scan : Sn
  since : List Int
def SiOk (w : Wd) : Prop := ∀ k ∈ w.since, k ∈ keys w.items ∧ (k < w.scan.1 → k ∈ w.scan.2)
def WdOk (w : Wd) : Prop := Tm w.now ∧ RgSafe w.ring ∧ LsOk w.leases ∧ ItOk w.items ∧ SnOk w.scan ∧ Asc w.since ∧ SiOk w
def wdZ : Wd := ⟨0, [], [], [], (0, []), []⟩
def own (w : Wd) (k : Int) : Int := if (lsAt w.leases k).2.2 < w.now ∨ (lsAt w.leases k).2.1 ∉ ids w.ring then -1 else (lsAt w.leases k).2.1
structure Wv where
  now : Int
  r : Value
  l : Value
  i : Value
  next : Int
  t : Value
  s : Value
def wc (W : Wv) : List Value := [.int .i64 W.now, W.r, W.l, W.i, .int .i64 W.next, W.t, W.s]
structure WdS (G : View) (lc : Ls → List Value) (W : Wv) (w : Wd) (rs : List Rn) : Prop where
  now : W.now = w.now
  ring : RngS G W.r rs
  rg : rgl rs = w.ring
  leases : SlR 3 (EF lc) G W.l w.leases
  items : ItS G W.i w.items
  next : W.next = w.scan.1
  told : IntS G W.t w.scan.2
  since : IntS G W.s w.since
theorem WdS.mono {G G' : View} {lc : Ls → List Value} {W : Wv} {w : Wd} {rs : List Rn} (h : WdS G lc W w rs) (hG : VLe G G') : WdS G' lc W w rs :=
  ⟨h.now, h.ring.mono hG, h.rg, EF.mono h.leases hG, h.items.mono hG, h.next, h.told.mono hG, h.since.mono hG⟩
theorem keys_len (xs : List It) : (keys xs).length = xs.length := by simp [keys]
theorem keys_snoc (xs : List It) (x : It) : keys (xs ++ [x]) = keys xs ++ [x.1] := by simp [keys]
section
variable {e w : World} {G : View} {L : Own} {P : Program} {n : Nat} {f : Sl} {dst : Option Nat} {ty : TypeId} {pos : String} {af : Array Edge} {g : Option (Nat × Bool)}
theorem lsP {T sz : Nat} {x : Operand} {b t o : Nat} {cs u : List Value} (hK : K e w G L) (h1 : AggC P T) (hs : (P.info? T).map (·.size) = some sz) (k : Nat) (hn : L[k]? = some (b, row cs t))
    (hp : ev n f x = .pointer (some ⟨b, o, none⟩)) (hl : u.length = sz) (hu : (cs.drop o).take u.length = u) : St P n ⟨dst, .load T x, ty, pos, af, g⟩ f w (.agg u.toArray) w :=
  lsC h1 hs hp hl fun j c hj => by
    rw [row_cell (hK.own _ _ (List.mem_of_getElem? hn))]
    have hlt := (List.getElem?_eq_some_iff.1 hj).1
    rw [← hu, List.getElem?_take, if_pos hlt, List.getElem?_drop] at hj
    exact hj
end
def idN (xs : List Int) (i : Nat) : Nd := (xs.getD i 0, xs.getD (((i : Int) + xs.length - 1) % xs.length).toNat 0, [xs.getD (((i : Int) + 1) % xs.length).toNat 0, xs.getD (((i : Int) + 2) % xs.length).toNat 0])
def idl (xs : List Int) : List Nd := (List.range xs.length).map (idN xs)
def idTo (xs : List Int) (i : Nat) : List Nd := (List.range i).map (idN xs)
def NdsOk (xs : List Int) : Prop := (1 ≤ xs.length ∧ xs.length ≤ 10) ∧ Asc xs
theorem getD_of {xs : List Int} {i : Nat} (h : i < xs.length) : xs[i] = xs.getD i 0 := by rw [List.getD_eq_getElem?_getD, List.getElem?_eq_getElem h]; rfl
def newW (xs : List Int) : Wd := ⟨0, idl xs, xs.map (fun k => (k, k, 20)), [], (0, []), []⟩
def afl (xs : List Int) (i : Nat) : List Int := [xs.getD (((i : Int) + 1) % xs.length).toNat 0, xs.getD (((i : Int) + 2) % xs.length).toNat 0]
theorem nd_eq {x y : Rn} (h1 : x.1 = y.1) (h2 : x.2.1 = y.2.1) (h3 : x.2.2.2 = y.2.2.2) : nd x = nd y := by unfold nd; rw [h1, h2, h3]
section
variable {P : Program} {n : Nat} {f : Sl} {w : World} {dst : Option Tmp} {ty : TypeId} {pos : String} {af : Array Edge} {g : Option (Nat × Bool)}
end
theorem wd_eq {a b : Wd} (h1 : a.now = b.now) (h2 : a.ring = b.ring) (h3 : a.leases = b.leases) (h4 : a.items = b.items) (h5 : a.scan = b.scan) (h6 : a.since = b.since) : a = b := by
  cases a; cases b; simp_all
def nxt (xs : List Int) (k : Int) : Int := (xs.find? (fun x => decide (x ≥ k))).getD (xs.getD 0 0)
theorem SlR.lit0 {α : Type} {sz : Nat} {E : View → List Value → α → Prop} {G : View} {p : Option Addr} : SlR sz E G (.slice p 0 0) [] := ⟨⟨p, 0, rfl, Nat.le_refl _, Nat.zero_le _, .inl rfl⟩, fun i x h => by simp at h⟩
theorem WdS.zero {G : View} {lc : Ls → List Value} : WdS G lc ⟨0, .slice none 0 0, .slice none 0 0, .slice none 0 0, 0, .slice none 0 0, .slice none 0 0⟩ wdZ [] :=
  ⟨rfl, RngS.lit, rfl, SlR.lit0, SlR.lit0, rfl, SlR.lit0, SlR.lit0⟩
theorem ids_idl (xs : List Int) : ids (idl xs) = xs := by
  unfold ids idl
  rw [List.map_map]
  apply List.ext_getElem
  · simp
  · intro i h1 h2
    simp only [List.getElem_map, List.getElem_range, Function.comp]
    unfold idN
    exact (getD_of h2).symm
end Go.Ro
