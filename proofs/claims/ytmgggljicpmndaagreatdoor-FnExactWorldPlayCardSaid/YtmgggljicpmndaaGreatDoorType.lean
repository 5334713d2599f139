/- Worlds whose lists are new since a view, while they are changed. Functions that defer one call. Plays of a world and quiet periods, plain. Closed facts on the types of the program. Conditions: those that each row states. -/
import Derived.Test.YtmgggljicpmndaaGreatDoorRgG
import Derived.Test.YtmgggljicpmndaaGreatDoorWm2
import Derived.Defers
import Derived.Test.YtmgggljicpmndaaGreatDoorOx
import Derived.Test.YtmgggljicpmndaaGreatDoorFin
import Derived.Test.YtmgggljicpmndaaGreatDoorProg
namespace Go.Ro
open Go
structure WdN (tN tL tS : TypeId) (lc : Ls → List Value) (G0 G : View) (W : Wv) (wd : Wd) (rs : List Rn) : Prop where
  ring : RgNew tN tS G0 G W.r rs
  leases : New 3 tL G0 G W.l wd.leases.length (wd.leases.flatMap lc)
  told : New 1 tS G0 G W.t wd.scan.2.length (ints wd.scan.2)
  nd : ((bl W.r ++ rs.flatMap fun x => bl x.2.2.1) ++ (bl W.l ++ bl W.t)).Nodup
structure WdP (G0 G : View) (tN tL : TypeId) (lc : Ls → List Value) (tI tS : TypeId) (W : Wv) (w : Wd) (rs : List Rn) (AI AS : Own) : Prop extends WdO G lc tI tS W w rs AI AS where
  nw : WdN tN tL tS lc G0 G W w rs
section
variable {e w : World} {G G' G0 G1 : View} {lc : Ls → List Value} {tN tL tI tS : TypeId} {W : Wv} {wd : Wd} {rs qs : List Rn} {v : Value} {AI AS L : Own} {a b c kd : Int}
theorem WdN.mono (h : WdN tN tL tS lc G0 G W wd rs) (hG : VLe G G') : WdN tN tL tS lc G0 G' W wd rs := ⟨h.ring.mono hG, h.leases.mono hG, h.told.mono hG, h.nd⟩
theorem WdN.older (h : WdN tN tL tS lc G1 G W wd rs) (hG : VLe G0 G1) : WdN tN tL tS lc G0 G W wd rs := ⟨h.ring.older hG, h.leases.older hG, h.told.older hG, h.nd⟩
theorem WdP.mono (h : WdP G0 G tN tL lc tI tS W wd rs AI AS) (hG : VLe G G') : WdP G0 G' tN tL lc tI tS W wd rs AI AS := ⟨h.toWdO.mono hG, h.nw.mono hG⟩
theorem WdN.bk (h : WdN tN tL tS lc G0 G W wd rs) : Bks G ((bl W.r ++ rs.flatMap fun x => bl x.2.2.1) ++ (bl W.l ++ bl W.t)) := ⟨h.nd, fun b hb => by
  simp only [List.mem_append] at hb
  rcases hb with (hb | hb) | hb | hb
  · exact (h.ring.out.fresh b hb).2
  · exact h.ring.inn.bk.2 b hb
  · exact (h.leases.fresh b hb).2
  · exact (h.told.fresh b hb).2⟩
theorem RgNew.fresh (h : RgNew tN tS G0 G v rs) : ∀ b ∈ (bl v ++ rs.flatMap fun x => bl x.2.2.1), G0 b = none := fun b hb => by
  rcases List.mem_append.1 hb with hb | hb
  · exact (h.out.fresh b hb).1
  · exact h.inn.fresh b hb
theorem WdN.setR (h : WdN tN tL tS lc G0 G W wd rs) (hG0 : VLe G0 G) (hG : VLe G G1) (hn : RgNew tN tS G G1 v qs) {r : List Nd} : WdN tN tL tS lc G0 G1 { W with r := v } { wd with ring := r } qs :=
  ⟨hn.older hG0, h.leases.mono hG, h.told.mono hG, (Bks.app (h.bk.sub (List.sublist_append_right _ _)) hn.bk hG hn.fresh).1⟩
theorem WdN.setL {ls : List Ls} (h : WdN tN tL tS lc G0 G W wd rs) (hG0 : VLe G0 G) (hG : VLe G G1) (hn : New 3 tL G G1 v ls.length (ls.flatMap lc)) : WdN tN tL tS lc G0 G1 { W with l := v } { wd with leases := ls } rs := by
  refine ⟨h.ring.mono hG, hn.older hG0, h.told.mono hG, ?_⟩
  have h1 : Bks G ((bl W.r ++ rs.flatMap fun x => bl x.2.2.1) ++ bl W.t) := h.bk.sub (List.Sublist.append (List.Sublist.refl _) (List.sublist_append_right _ _))
  have h2 := Bks.app h1 hn.bk hG fun b hb => (hn.fresh b hb).1
  refine (List.Perm.nodup_iff ?_).1 h2.1
  refine List.perm_iff_count.2 fun x => ?_
  simp only [List.count_append]; omega
theorem WdN.tell {n : Int} {s : Sn} (h : WdN tN tL tS lc G0 G W wd rs) (hG0 : VLe G0 G) (hG : VLe G G1) (hn : New 1 tS G G1 v s.2.length (ints s.2)) : WdN tN tL tS lc G0 G1 { W with next := n, t := v } { wd with scan := s } rs := by
  refine ⟨h.ring.mono hG, h.leases.mono hG, hn.older hG0, ?_⟩
  have h1 : Bks G ((bl W.r ++ rs.flatMap fun x => bl x.2.2.1) ++ bl W.l) := h.bk.sub (List.Sublist.append (List.Sublist.refl _) (List.sublist_append_left _ _))
  have h2 := Bks.app h1 hn.bk hG fun b hb => (hn.fresh b hb).1
  refine (List.Perm.nodup_iff ?_).1 h2.1
  refine List.perm_iff_count.2 fun x => ?_
  simp only [List.count_append]; omega
theorem WdN.of (hr : RgNew tN tS G0 G W.r rs) (hl : New 3 tL G0 G W.l wd.leases.length (wd.leases.flatMap lc)) (ht : New 1 tS G0 G W.t wd.scan.2.length (ints wd.scan.2)) (hn : ((bl W.r ++ rs.flatMap fun x => bl x.2.2.1) ++ (bl W.l ++ bl W.t)).Nodup) : WdN tN tL tS lc G0 G W wd rs := ⟨hr, hl, ht, hn⟩
theorem WdN.nd0 (h : WdN tN tL tS lc G0 G W wd rs) {u : Value} (hu : bl u = []) : ((bl W.r ++ rs.flatMap fun x => bl x.2.2.1) ++ (bl W.l ++ bl u)).Nodup := by
  rw [hu, List.append_nil]
  exact (h.bk.sub (List.Sublist.append (List.Sublist.refl _) (List.sublist_append_left _ _))).1
theorem cwNd {G2 G3 : View} {r l t : Value} {m k : Nat} {cs ds : List Value} (hr : RgNew tN tS G0 G1 r qs) (hl : New 3 tL G0 G2 l m cs) (ht : New 1 tS G0 G3 t k ds) (hG2 : VLe G1 G2) (hG3 : VLe G2 G3) (hlb : ∀ b ∈ bl l, G1 b = none) (htb : ∀ b ∈ bl t, G2 b = none) :
    ((bl r ++ qs.flatMap fun x => bl x.2.2.1) ++ (bl l ++ bl t)).Nodup := by
  have h1 := Bks.app (Bks.app hr.bk hl.bk hG2 hlb) ht.bk hG3 htb
  refine (List.Perm.nodup_iff ?_).1 h1.1
  refine List.perm_iff_count.2 fun x => ?_
  simp only [List.count_append]; omega
theorem wdP_setR {o : List Nd × Bool} (h : WdP G0 G tN tL lc tI tS W wd rs AI AS) (hG0 : VLe G0 G) (hG : VLe G G1) (hq : RngS G1 v qs) (hr : rgl qs = o.1) (hn : RgNew tN tS G G1 v qs) (ho : rgO wd.ring kd a b = o) :
    WdP G0 G1 tN tL lc tI tS (if o.2 = true then { W with r := v } else W) (rgW wd kd a b) (if o.2 = true then qs else rs) AI AS := by
  have h1 := h.mono hG
  unfold rgW
  rw [ho]
  by_cases h2 : o.2 = true
  · rw [if_pos h2, if_pos h2, if_pos h2]
    exact ⟨⟨h1.now, hq, hr, h1.leases, h1.items, h1.next, h1.told, h1.since⟩, h.nw.setR hG0 hG hn⟩
  · rw [if_neg h2, if_neg h2, if_neg h2]; exact h1
theorem wdP_setL {o : List Ls × Bool} (h : WdP G0 G tN tL lc tI tS W wd rs AI AS) (hG0 : VLe G0 G) (hG : VLe G G1) (hq : SlR 3 (EF lc) G1 v o.1) (hn : New 3 tL G G1 v o.1.length (o.1.flatMap lc)) (ho : leO wd kd a b c = o) :
    WdP G0 G1 tN tL lc tI tS (if o.2 = true then { W with l := v } else W) (leW wd kd a b c) rs AI AS := by
  have h1 := h.mono hG
  unfold leW
  rw [ho]
  by_cases h2 : o.2 = true
  · rw [if_pos h2, if_pos h2]
    exact ⟨⟨h1.now, h1.ring, h1.rg, hq, h1.items, h1.next, h1.told, h1.since⟩, h.nw.setL hG0 hG hn⟩
  · rw [if_neg h2, if_neg h2]; exact h1
theorem OSx.pubF {sz t : Nat} {α : Type} {cc : α → List Value} {xs : List α} {A : Own} (hc : ∀ x, (cc x).length = sz) (hK : K e w G (A ++ L)) (ho : OSx sz t v xs.length (xs.flatMap cc) A) (hG : VLe G0 G) :
    ∃ G', VLe G G' ∧ SlR sz (EF cc) G' v xs ∧ New sz t G0 G' v xs.length (xs.flatMap cc) ∧ (∀ b ∈ bl v, G b = none) ∧ K e w G' L := by
  rcases ho with ho | ⟨h0, rfl, _, b, rfl⟩
  · exact K.pubEF hc hK ho hG
  · obtain rfl := List.eq_nil_of_length_eq_zero h0
    exact ⟨G, VLe.refl _, SlR.lit0, New.lit0, fun _ hb => by simp [bl] at hb, hK⟩
theorem WdP.pubF (h : WdP G0 G tN tL lc tI tS W wd rs AI AS) (hG0 : VLe G0 G) (hK : K e w G (AI ++ (AS ++ L))) : ∃ G', VLe G G' ∧ WdS G' lc W wd rs ∧ WdF lc tN tL tI tS G0 G' W wd rs ∧ K e w G' L := by
  obtain ⟨G1, g1, h1, n1, b1, hK⟩ := OSx.pubF (cc := ic) (fun _ => rfl) hK h.items hG0
  obtain ⟨G2, g2, h2, n2, b2, hK⟩ := OSx.pubF (cc := fun n => [.int .i64 n]) (fun _ => rfl) hK h.since (hG0.trans g1)
  have hg := g1.trans g2
  have k1 := Bks.app h.nw.bk n1.bk g1 b1
  have k2 := Bks.app k1 n2.bk g2 b2
  refine ⟨G2, hg, ⟨h.now, h.ring.mono hg, h.rg, EF.mono h.leases hg, EF.mono h1 g2, h.next, h.told.mono hg, h2⟩, ⟨h.nw.ring.out.mono hg, h.nw.ring.inn.mono hg, h.nw.leases.mono hg, n1.mono g2, h.nw.told.mono hg, by rw [ints_flat]; exact n2, ?_⟩, hK⟩
  refine (List.Perm.nodup_iff ?_).1 k2.1
  unfold wb
  generalize bl W.s = S; generalize bl W.i = I; generalize bl W.l = Lb; generalize bl W.t = T; generalize bl W.r = R; generalize (rs.flatMap fun x => bl x.2.2.1) = N
  refine List.perm_iff_count.2 fun x => ?_
  simp only [List.count_append]; omega
def LsF (tL : TypeId) (lc : Ls → List Value) (G0 G : View) (r : Value) (o : List Ls × Bool) : Prop := ∃ v, r = .tuple #[v, .bool o.2] ∧ SlR 3 (EF lc) G v o.1 ∧ New 3 tL G0 G v o.1.length (o.1.flatMap lc)
theorem LsF.mk {b : Bool} {x : List Ls} {o : List Ls × Bool} (ho : o = (x, b)) (h : SlR 3 (EF lc) G v x) (hn : New 3 tL G0 G v x.length (x.flatMap lc)) : LsF tL lc G0 G (.tuple #[v, .bool b]) o := by
  subst ho; exact ⟨v, rfl, h, hn⟩
def HdF (tL TE : Nat) (a0 a1 : Addr) (lc : Ls → List Value) (G0 G : View) (ls : List Ls) (ok : Prop) (o : Option (List Ls)) (r : Value) : Prop :=
  (¬ (LsOk ls ∧ ok) ∧ r = .tuple #[.slice none 0 0, .iface TE (.pointer (some a0))]) ∨ (LsOk ls ∧ ok ∧ o = none ∧ r = .tuple #[.slice none 0 0, .iface TE (.pointer (some a1))]) ∨
    ∃ v x, LsOk ls ∧ ok ∧ o = some x ∧ r = .tuple #[v, .nilIface] ∧ SlR 3 (EF lc) G v x ∧ New 3 tL G0 G v x.length (x.flatMap lc)
theorem HdF.tup {TE : Nat} {a0 a1 : Addr} {ls : List Ls} {ok : Prop} {o : Option (List Ls)} {r : Value} (h : HdF tL TE a0 a1 lc G0 G ls ok o r) : ∃ v u, r = .tuple #[v, u] := by
  rcases h with ⟨_, rfl⟩ | ⟨_, _, _, rfl⟩ | ⟨_, _, _, _, _, rfl, _⟩ <;> exact ⟨_, _, rfl⟩
end
open Go
def addD (D : List Deferred) (a : Act) : Act := { a with defers := a.defers ++ D }
section
variable {P : Program} {n : Nat} {Q : Exit → Act → World → Prop} {f : Sl} {w : World} {ops : Array Oper} {D : List Deferred}
theorem put_addD {a : Act} {d : Option Tmp} {v : Value} : (addD D a).put d v = addD D (a.put d v) := by cases d <;> rfl
theorem putd_addD {a : Act} {d : Option Tmp} {v : Value} {x : Deferred} : Act.put { addD D a with defers := x :: (addD D a).defers } d v = addD D (Act.put { a with defers := x :: a.defers } d v) := by cases d <;> rfl
theorem owp_addD {o : Oper} {a : Act} {w : World} {next : Act → World → Prop} (hh : o.wp P a w (fun a' w' => next (addD D a') w') (fun e a' w' => Q e (addD D a') w')) : o.wp P (addD D a) w next Q := by
  unfold Oper.wp at *
  have he : execOp (addD D a).eval o = execOp a.eval o := rfl
  rw [he]
  generalize (execOp a.eval o).run P w = r at *
  cases r with
  | ok n w' =>
    cases n <;> simp only [Oper.upon, put_addD, putd_addD] at hh ⊢ <;>
      first
        | exact hh
        | exact Calls.mono hh (fun e w'' he => by cases e <;> first | exact he | exact (let ⟨a, w, x⟩ := he; ⟨addD D a, w, x⟩))
        | exact Rows.mono hh (fun _ _ he => he)
  | halt x w' => cases x <;> simp only [Oper.upon] at hh ⊢ <;> exact hh
theorem any_addD {S : World → Prop} (hno : ¬ LetsOut fun e a' w' => Q e (addD D a') w') : ∀ (k : Nat) (l : Array Bool) (a : Act) (w : World), wpAnyH P .any ops (fun e a' w' => Q e (addD D a') w') S k l a w → wpAnyH P .any ops Q S k l (addD D a) w
  | 0, _, _, _, h => h
  | k + 1, l, a, w, h => ⟨h.1, fun i hi => by
    have := h.2 i hi
    unfold wpOp at this ⊢
    cases ho : ops[i]? with
    | none => simp only [ho] at this ⊢; exact ⟨this.1, any_addD hno k _ _ _ this.2⟩
    | some o =>
      simp only [ho] at this ⊢
      have hy : (yielded ops (addD D a).tmps) = yielded ops a.tmps := rfl
      rw [hy, put_addD]
      split
      · rename_i hw
        rw [if_pos hw] at this
        rcases this with h1 | h1
        · exact .inl (owp_addD (owp_mono (fun a' w' hk => ⟨hk.1, any_addD hno k _ _ _ hk.2⟩) (fun _ _ _ _ h => h) h1))
        · exact absurd h1.2 hno
      · rename_i hw
        rw [if_neg hw] at this
        exact ⟨this.1, any_addD hno k _ _ _ this.2⟩⟩
theorem rgxD {id k : Nat} {ol : List Oper} {Q3 : Po} (S : World → Prop) (l : List Bool) (hm : P.follows .mixedOrders = true) (hl : Array.replicate ol.toArray.size false = l.toArray) (hk : ol.toArray.size = k) {C : World → Prop} (hC : C { w with drawn := w.drawn + 1 })
    (h : ∀ w, C w → WX P n ol.toArray S Q3 k l f w) (hp : ∀ g w, Q3 .normal g w → Q .normal (addD D (mkA n g)) w) : (Code.region id ol.toArray true).wp P Q (addD D (mkA n f)) w := by
  have h1 : (Code.region id ol.toArray true).wp P (fun e a w => ∃ b, a = addD D b ∧ Nq n Q3 e b w) (addD D (mkA n f)) w := by
    refine wp_region_held (S := S) hm ?_
    rw [hl, hk]
    have hm' : ∀ (k : Nat) (l : Array Bool) (a : Act) (w : World), wpAnyH P .any ol.toArray (Nq n Q3) S k l a w → wpAnyH P .any ol.toArray (fun e a' w' => ∃ b, addD D a' = addD D b ∧ Nq n Q3 e b w') S k l a w := by
      intro k
      induction k with
      | zero => intro l a w h; exact ⟨h.1, a, rfl, h.2⟩
      | succ k ih => intro l a w h; exact ⟨fun hr => ⟨a, rfl, h.1 hr⟩, fun i hi => by
          have := h.2 i hi
          unfold wpOp at this ⊢
          cases ho : ol.toArray[i]? with
          | none => simp only [ho] at this ⊢; exact ⟨this.1, ih _ _ _ this.2⟩
          | some o =>
            simp only [ho] at this ⊢
            split
            · rename_i hw
              rw [if_pos hw] at this
              rcases this with h1 | h1
              · exact .inl (owp_mono (fun a' w' hk => ⟨hk.1, ih _ _ _ hk.2⟩) (fun e a w _ h => ⟨a, rfl, h⟩) h1)
              · obtain ⟨_, _, _, h, _⟩ := h1; cases h
            · rename_i hw
              rw [if_neg hw] at this
              exact ⟨this.1, ih _ _ _ this.2⟩⟩
    refine any_addD ?_ _ _ _ _ (hm' _ _ _ _ (h _ hC))
    rintro ⟨_, _, _, _, h, _⟩
    cases h
  refine wp_mono h1 ?_
  rintro e a w ⟨b, rfl, rfl, g, rfl, hq⟩
  exact hp g w hq
theorem valA {rest : List Oper} {o : Oper} {v : Value} {w' : World} (hg : o.guard = none) (hrun : (execOp (ev n f) o).run P w = .ok (.value v) w')
    (h : wpList P ops Q rest (mkA n (updO f o.dst v)) w') : wpList P ops Q (o :: rest) (mkA n f) w := by
  refine wpList_plain hg fun K hK => ?_
  show o.upon P _ _ _ ((execOp (mkA n f).eval o).run P w)
  rw [mkA_evalF, hrun]
  show K ((mkA n f).put o.dst v) w'
  rw [mkA_put]; exact hK _ _ h
theorem dfA {rest : List Oper} {F : FuncId} {x : Operand} {ts : Array TypeId} {ty : TypeId} {pos : String} {af : Array Edge} {u : Value} (hx : ev n f x = u)
    (h : wpList P ops Q rest (addD [{ target := .fn (.func F) #[], args := #[u] }] (mkA n f)) w) : wpList P ops Q (⟨none, .defer ⟨.value (.func F), #[x], ts⟩, ty, pos, af, none⟩ :: rest) (mkA n f) w := by
  refine wpList_plain rfl fun K hK => ?_
  show Oper.upon P _ _ _ _ ((execOp (mkA n f).eval _).run P w)
  rw [mkA_evalF]
  have hF : ev n f (.func F) = .func (.func F) #[] #[] := rfl
  have e1 : (execOp (ev n f) ⟨none, .defer ⟨.value (.func F), #[x], ts⟩, ty, pos, af, none⟩).run P w = .ok (.defer { target := .fn (.func F) #[], args := #[u] }) w := by
    unfold execOp
    simp only [resolve, hF, Deferred.ofValue, Sem.run_bind, Sem.run_pure, Result.andThen_ok, List.map_toArray, List.map_cons, List.map_nil, hx]
    rfl
  rw [e1]
  exact hK _ _ h
theorem sqA {c x : Code} (h : W P n c (fun e f w => e = .normal ∧ x.wp P Q (mkA n f) w) f w) : (Code.seq c x).wp P Q (mkA n f) w :=
  wp_seq (wp_mono h (by rintro e a w ⟨g, rfl, rfl, hx⟩; exact hx))
theorem act_ini {fn : Func} {args : List Value} (hn : fn.ntmps = n) (hl : Nat.ble args.length n = true) : ({ tmps := args.toArray ++ Array.replicate (fn.ntmps - args.toArray.size) undef, defers := [] } : Act) = mkA n (ini args) := by
  have hle : args.length ≤ n := Nat.le_of_ble_eq_true hl
  rw [hn]
  simp only [mkA]
  congr 1
  apply Array.ext
  · simp; omega
  · intro i h1 h2
    simp only [Array.getElem_map, Array.getElem_range, ini_getD]
    by_cases hi : i < args.length
    · rw [Array.getElem_append_left (by simpa using hi)]
      simp [List.getD, hi]
    · rw [Array.getElem_append_right (by simpa using hi)]
      simp [List.getD, List.getElem?_eq_none (Nat.le_of_not_lt hi)]
theorem enterDf {F : FuncId} {fn : Func} {c : Code} {args : List Value} {R : Ending → World → Prop} (hf : P.funcs[F]? = some fn) (hb : fn.body = some c) (hn : fn.ntmps = n) (hl : Nat.ble args.length n = true)
    (h : c.wp P (bodyPostD P fn R) (mkA n (ini args)) w) : Calls P F args.toArray w R := by
  refine calls_of_wp_defers hf hb ?_
  rw [act_ini hn hl]; exact h
theorem K.set0 {e w : World} {G : View} {L : Own} {b t : Nat} {v u : Value} {l : List Value} (hK : K e w G ((b, row (v :: l) t) :: L)) : K e (w.setCell ⟨b, 0, none⟩ u) G ((b, row (u :: l) t) :: L) := by
  have hb := hK.own b _ (List.mem_cons_self ..)
  have hs := setCell_eq_setRow w b 0 (v :: l).toArray t (0, 0) u hb
  rw [hs]
  have this : K e (w.setRow b ((v :: l).toArray.setIfInBounds 0 u)) G ((b, .cells ((v :: l).toArray.setIfInBounds 0 u) t (0, 0)) :: L) := K.write (L := L) hK rfl rfl rfl (setRow_heap w b (v :: l).toArray ((v :: l).toArray.setIfInBounds 0 u) t (0, 0) hb) (fun k' hk' x hx => by rw [setRow_other w b k' _ hk']; exact hx)
  have e1 : (v :: l).toArray.setIfInBounds 0 u = (u :: l).toArray := by simp
  rw [e1] at this ⊢
  exact this
end
open Go
abbrev Ev := Int × Int × Int × Int
def evc (x : Ev) : List Value := [.int .i64 x.1, .int .i64 x.2.1, .int .i64 x.2.2.1, .int .i64 x.2.2.2]
abbrev EvS := SlR 4 (EF evc)
noncomputable def doE (w : Wd) (x : Ev) : Wd := doW w x.1 x.2.1 x.2.2.1 x.2.2.2
noncomputable def plE (w : Wd) (es : List Ev) : Wd := es.foldl doE w
noncomputable def plF (xs : List Int) (es : List Ev) : Wd := plE (newW xs) es
def PlOk (xs : List Int) (es : List Ev) : Prop := (NdsOk xs ∧ 3 ≤ xs.length) ∧ es.length ≤ 80
theorem plE_ok : ∀ (es : List Ev) {w : Wd}, WdOk w → WdOk (plE w es)
  | [], _, h => h
  | x :: es, _, h => plE_ok es (doW_ok h x.1 x.2.1 x.2.2.1 x.2.2.2)
theorem plE_snoc (w : Wd) (es : List Ev) (x : Ev) : plE w (es ++ [x]) = doE (plE w es) x := by unfold plE; rw [List.foldl_append]; rfl
theorem plE_take {w : Wd} {es : List Ev} {i : Nat} (hi : i < es.length) : plE w (es.take (i + 1)) = doE (plE w (es.take i)) es[i] := by
  rw [List.take_succ_eq_append_getElem hi, plE_snoc]
def calN (n : Int) : Int := min (n + 21) 999
def calW (w : Wd) : Wd := ⟨calN w.now, idl (ids w.ring), (ids w.ring).map (fun k => (k, k, utl (calN w.now))), w.items, w.scan, w.since⟩
noncomputable def calF (w : Wd) : Wd := if dec (WdOk w) = true then calW w else wdZ
def Sct (ls : List Ls) (ks : List Int) (i : Nat) (s : Sn) : Prop := ∃ j, j ≤ i ∧ s = itr ls ks j ∧ (∀ l, l < j → (itr ls ks l).1 < 64) ∧ (s.1 = 64 ∨ j = i)
theorem Sct.zero {ls : List Ls} {ks : List Int} : Sct ls ks 0 (0, []) := ⟨0, Nat.le_refl _, rfl, fun _ h => absurd h (Nat.not_lt_zero _), .inr rfl⟩
theorem Sct.done {ls : List Ls} {ks : List Int} {s : Sn} (hl : LsOk ls) (hk : Asc ks) (h : Sct ls ks (ls.length + 1) s) : s.1 = 64 ∧ s.2 = ks := by
  obtain ⟨j, hj, rfl, h1, h2⟩ := h
  obtain ⟨g1, _, _, g4⟩ := itr_ok hl hk j h1
  have hc := List.countP_le_length (l := ls) (p := fun x => decide (x.1 < (itr ls ks j).1))
  rcases h2 with h2 | h2
  · exact ⟨h2, (Whole.told hl hk ⟨h2, h1⟩).1⟩
  · by_cases h3 : (itr ls ks j).1 = 64
    · exact ⟨h3, (Whole.told hl hk ⟨h3, h1⟩).1⟩
    · rw [if_neg h3] at g4; omega
theorem doW_scan (w : Wd) (a b c : Int) : doW w 14 a b c = scW w := by
  unfold doW; rw [if_neg (by omega), if_neg (by omega), if_neg (by omega), if_neg (by omega), if_pos rfl]
theorem Sct.step {w : Wd} {i : Nat} {s : Sn} (ho : ∀ k, 0 ≤ own w k) (hl : LsOk w.leases) (hk : Asc (keys w.items)) (h : Sct w.leases (keys w.items) i s) :
    ∃ s', doW { w with scan := s } 14 0 0 0 = { w with scan := s' } ∧ Sct w.leases (keys w.items) (i + 1) s' := by
  obtain ⟨j, hj, rfl, h1, h2⟩ := h
  rw [doW_scan]
  unfold scW
  by_cases h3 : (itr w.leases (keys w.items) j).1 < 64
  · refine ⟨itr w.leases (keys w.items) (j + 1), if_pos ⟨h3, ho _⟩, j + 1, by omega, rfl, fun l hl => ?_, ?_⟩
    · rcases Nat.lt_succ_iff_lt_or_eq.1 hl with g | g
      · exact h1 l g
      · rw [g]; exact h3
    · rcases h2 with h2 | h2
      · omega
      · exact .inr (by omega)
  · refine ⟨itr w.leases (keys w.items) j, if_neg fun g => h3 g.1, j, by omega, rfl, h1, .inl ?_⟩
    have := (itr_ok hl hk j h1).1.1.2
    omega
end Go.Ro
namespace Go.Proofs.YtmgggljicpmndaaGreatDoor
open Go Go.Ro
theorem Ty.mixed : Tryz.prog.follows .mixedOrders = true := by kernel_rfl
theorem Ty.o2 : OneC Tryz.prog 2 := ⟨_, Tryz.underlying2, rfl⟩
theorem Ty.s2 : (Tryz.prog.info? 2).map (·.size) = some 1 := by kernel_rfl
theorem Ty.i2 : Inf Tryz.prog 2 (.int .i64 0) 1 8 := by unfold Inf; kernel_rfl
theorem Ty.o3 : OneC Tryz.prog 3 := ⟨_, Tryz.underlying3, rfl⟩
theorem Ty.s3 : (Tryz.prog.info? 3).map (·.size) = some 1 := by kernel_rfl
theorem Ty.z3 : (Tryz.prog.info? 3).map (fun i => i.size == 0) = some false := by kernel_rfl
theorem Ty.i3 : Inf Tryz.prog 3 (.int .i64 0) 1 8 := by unfold Inf; kernel_rfl
theorem Ty.i4 : Inf Tryz.prog 4 (.bool false) 1 1 := by unfold Inf; kernel_rfl
theorem Ty.o22 : OneC Tryz.prog 22 := ⟨_, Tryz.underlying22, rfl⟩
theorem Ty.z22 : (Tryz.prog.info? 22).map (fun i => i.size == 0) = some false := by kernel_rfl
theorem Ty.i22 : Inf Tryz.prog 22 (.slice none 0 0) 1 24 := by unfold Inf; kernel_rfl
theorem Ty.o25 : OneC Tryz.prog 25 := ⟨_, Tryz.underlying25, rfl⟩
theorem Ty.z25 : (Tryz.prog.info? 25).map (fun i => i.size == 0) = some false := by kernel_rfl
theorem Ty.i25 : Inf Tryz.prog 25 (.slice none 0 0) 1 24 := by unfold Inf; kernel_rfl
theorem Ty.o26 : OneC Tryz.prog 26 := ⟨_, Tryz.underlying26, rfl⟩
theorem Ty.z26 : (Tryz.prog.info? 26).map (fun i => i.size == 0) = some false := by kernel_rfl
theorem Ty.i26 : Inf Tryz.prog 26 (.slice none 0 0) 1 24 := by unfold Inf; kernel_rfl
theorem Ty.o27 : OneC Tryz.prog 27 := ⟨_, Tryz.underlying27, rfl⟩
theorem Ty.z27 : (Tryz.prog.info? 27).map (fun i => i.size == 0) = some false := by kernel_rfl
theorem Ty.i27 : Inf Tryz.prog 27 (.slice none 0 0) 1 24 := by unfold Inf; kernel_rfl
theorem Ty.a29 : AggC Tryz.prog 29 := ⟨_, Tryz.underlying29, rfl⟩
theorem Ty.s29 : (Tryz.prog.info? 29).map (·.size) = some 2 := by kernel_rfl
theorem Ty.p29 : plc Tryz.prog 29 = some [(0, 1), (1, 1)] := by kernel_rfl
theorem Ty.z29 : (Tryz.prog.info? 29).map (fun i => i.size == 0) = some false := by kernel_rfl
theorem Ty.i29 : Inf Tryz.prog 29 (.agg #[(.int .i64 0), (.slice none 0 0)]) 2 32 := by unfold Inf; kernel_rfl
theorem Ty.a31 : AggC Tryz.prog 31 := ⟨_, Tryz.underlying31, rfl⟩
theorem Ty.s31 : (Tryz.prog.info? 31).map (·.size) = some 7 := by kernel_rfl
theorem Ty.p31 : plc Tryz.prog 31 = some [(0, 1), (1, 1), (2, 1), (3, 1), (4, 2), (6, 1)] := by kernel_rfl
theorem Ty.z31 : (Tryz.prog.info? 31).map (fun i => i.size == 0) = some false := by kernel_rfl
theorem Ty.i31 : Inf Tryz.prog 31 (.agg #[(.int .i64 0), (.slice none 0 0), (.slice none 0 0), (.slice none 0 0), (.int .i64 0), (.slice none 0 0), (.slice none 0 0)]) 7 136 := by unfold Inf; kernel_rfl
theorem Ty.a51 : AggC Tryz.prog 51 := ⟨_, Tryz.underlying51, rfl⟩
theorem Ty.s51 : (Tryz.prog.info? 51).map (·.size) = some 4 := by kernel_rfl
theorem Ty.a55 : AggC Tryz.prog 55 := ⟨_, Tryz.underlying55, rfl⟩
theorem Ty.s55 : (Tryz.prog.info? 55).map (·.size) = some 4 := by kernel_rfl
theorem Ty.i55 : Inf Tryz.prog 55 (.agg #[(.int .i64 0), (.int .i64 0), (.int .i64 0), (.int .i64 0)]) 4 32 := by unfold Inf; kernel_rfl
theorem Ty.i64 : Inf Tryz.prog 64 (.agg #[(.int .i32 0), (.int .u32 0)]) 2 8 := by unfold Inf; kernel_rfl
theorem Ty.z67 : (Tryz.prog.info? 67).map (fun i => i.size == 0) = some false := by kernel_rfl
theorem Ty.p69 : plc Tryz.prog 69 = some [(0, 2), (2, 7)] := by kernel_rfl
theorem Ty.i69 : Inf Tryz.prog 69 (.agg #[(.int .i32 0), (.int .u32 0), (.int .i64 0), (.slice none 0 0), (.slice none 0 0), (.slice none 0 0), (.int .i64 0), (.slice none 0 0), (.slice none 0 0)]) 9 144 := by unfold Inf; kernel_rfl
theorem Ty.a98 : AggC Tryz.prog 98 := ⟨_, Tryz.underlying98, rfl⟩
theorem Ty.s98 : (Tryz.prog.info? 98).map (·.size) = some 3 := by kernel_rfl
theorem Ty.p98 : plc Tryz.prog 98 = some [(0, 1), (1, 1), (2, 1)] := by kernel_rfl
theorem Ty.i98 : Inf Tryz.prog 98 (.agg #[(.int .i64 0), (.int .i64 0), (.slice none 0 0)]) 3 40 := by unfold Inf; kernel_rfl
theorem Ty.a101 : AggC Tryz.prog 101 := ⟨_, Tryz.underlying101, rfl⟩
theorem Ty.s101 : (Tryz.prog.info? 101).map (·.size) = some 3 := by kernel_rfl
theorem Ty.p101 : plc Tryz.prog 101 = some [(0, 1), (1, 1), (2, 1)] := by kernel_rfl
theorem Ty.i101 : Inf Tryz.prog 101 (.agg #[(.int .i64 0), (.int .i64 0), (.int .i64 0)]) 3 24 := by unfold Inf; kernel_rfl
theorem Ty.a104 : AggC Tryz.prog 104 := ⟨_, Tryz.underlying104, rfl⟩
theorem Ty.s104 : (Tryz.prog.info? 104).map (·.size) = some 2 := by kernel_rfl
theorem Ty.p104 : plc Tryz.prog 104 = some [(0, 1), (1, 1)] := by kernel_rfl
theorem Ty.i104 : Inf Tryz.prog 104 (.agg #[(.int .i64 0), (.int .i64 0)]) 2 16 := by unfold Inf; kernel_rfl
theorem Ty.o160 : OneC Tryz.prog 160 := ⟨_, Tryz.underlying160, rfl⟩
theorem Ty.o170 : OneC Tryz.prog 170 := ⟨_, Tryz.underlying170, rfl⟩
theorem Ty.z170 : (Tryz.prog.info? 170).map (fun i => i.size == 0) = some false := by kernel_rfl
theorem Ty.p172 : plc Tryz.prog 172 = some [(0, 1), (1, 1)] := by kernel_rfl
theorem Ty.i172 : Inf Tryz.prog 172 (.agg #[(.int .i64 0), (.pointer none)]) 2 16 := by unfold Inf; kernel_rfl
theorem Ty.p206 : plc Tryz.prog 206 = some [(0, 1)] := by kernel_rfl
theorem Ty.i206 : Inf Tryz.prog 206 (.agg #[(.slice none 0 0)]) 1 24 := by unfold Inf; kernel_rfl
end Go.Proofs.YtmgggljicpmndaaGreatDoor
