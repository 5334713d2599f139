/- Worlds whose lists are new since a view, while they are changed. copy, clear, and slices of one's own beyond their length. Binary search, plain; numbers without sign. Insertions into and deletions from slices of one's own, plain. Two error variables of a package; what operations on leases return. Worlds whose items are the walk's own: read whole; items put and erased, plain. Plays of a world and quiet periods, plain. Conditions: those that each row states. -/
import Derived.Test.YtmgggljicpmndaaGreatRgG
import Derived.Test.YtmgggljicpmndaaGreatOx
import Derived.Laws.CopyRow
import Derived.Lib.Overlaps
import Derived.Laws.Externs
import Derived.Test.YtmgggljicpmndaaGreatWlM
import Derived.Test.YtmgggljicpmndaaGreatWdM
namespace Go.Ro
open Go
structure WdN (tN tL tS : TypeId) (lc : Ls → List Value) (G0 G : View) (W : Wv) (wd : Wd) (rs : List Rn) : Prop where
  ring : RgNew tN tS G0 G W.r rs
  leases : New 3 tL G0 G W.l wd.leases.length (wd.leases.flatMap lc)
  told : New 1 tS G0 G W.t wd.scan.2.length (ints wd.scan.2)
  nd : ((bl W.r ++ rs.flatMap fun x => bl x.2.2.1) ++ (bl W.l ++ bl W.t)).Nodup
structure WdP (G0 G : View) (tN tL : TypeId) (lc : Ls → List Value) (tI tS : TypeId) (W : Wv) (w : Wd) (rs : List Rn) (AI AS : Own) : Prop extends WdO G lc tI tS W w rs AI AS where
  nw : WdN tN tL tS lc G0 G W w rs
section
variable {e w : World} {G G' G0 G1 : View} {lc : Ls → List Value} {tN tL tI tS : TypeId} {W : Wv} {wd : Wd} {rs qs : List Rn} {v : Value} {AI AS L : Own} {a b c kd : Int}
theorem WdN.mono (h : WdN tN tL tS lc G0 G W wd rs) (hG : VLe G G') : WdN tN tL tS lc G0 G' W wd rs := ⟨h.ring.mono hG, h.leases.mono hG, h.told.mono hG, h.nd⟩
theorem WdN.older (h : WdN tN tL tS lc G1 G W wd rs) (hG : VLe G0 G1) : WdN tN tL tS lc G0 G W wd rs := ⟨h.ring.older hG, h.leases.older hG, h.told.older hG, h.nd⟩
theorem WdP.mono (h : WdP G0 G tN tL lc tI tS W wd rs AI AS) (hG : VLe G G') : WdP G0 G' tN tL lc tI tS W wd rs AI AS := ⟨h.toWdO.mono hG, h.nw.mono hG⟩
theorem WdN.bk (h : WdN tN tL tS lc G0 G W wd rs) : Bks G ((bl W.r ++ rs.flatMap fun x => bl x.2.2.1) ++ (bl W.l ++ bl W.t)) := ⟨h.nd, fun b hb => by
  simp only [List.mem_append] at hb
  rcases hb with (hb | hb) | hb | hb
  · exact (h.ring.out.fresh b hb).2
  · exact h.ring.inn.bk.2 b hb
  · exact (h.leases.fresh b hb).2
  · exact (h.told.fresh b hb).2⟩
theorem RgNew.fresh (h : RgNew tN tS G0 G v rs) : ∀ b ∈ (bl v ++ rs.flatMap fun x => bl x.2.2.1), G0 b = none := fun b hb => by
  rcases List.mem_append.1 hb with hb | hb
  · exact (h.out.fresh b hb).1
  · exact h.inn.fresh b hb
theorem WdN.setR (h : WdN tN tL tS lc G0 G W wd rs) (hG0 : VLe G0 G) (hG : VLe G G1) (hn : RgNew tN tS G G1 v qs) {r : List Nd} : WdN tN tL tS lc G0 G1 { W with r := v } { wd with ring := r } qs :=
  ⟨hn.older hG0, h.leases.mono hG, h.told.mono hG, (Bks.app (h.bk.sub (List.sublist_append_right _ _)) hn.bk hG hn.fresh).1⟩
theorem WdN.setL {ls : List Ls} (h : WdN tN tL tS lc G0 G W wd rs) (hG0 : VLe G0 G) (hG : VLe G G1) (hn : New 3 tL G G1 v ls.length (ls.flatMap lc)) : WdN tN tL tS lc G0 G1 { W with l := v } { wd with leases := ls } rs := by
  refine ⟨h.ring.mono hG, hn.older hG0, h.told.mono hG, ?_⟩
  have h1 : Bks G ((bl W.r ++ rs.flatMap fun x => bl x.2.2.1) ++ bl W.t) := h.bk.sub (List.Sublist.append (List.Sublist.refl _) (List.sublist_append_right _ _))
  have h2 := Bks.app h1 hn.bk hG fun b hb => (hn.fresh b hb).1
  refine (List.Perm.nodup_iff ?_).1 h2.1
  refine List.perm_iff_count.2 fun x => ?_
  simp only [List.count_append]; omega
theorem WdN.of (hr : RgNew tN tS G0 G W.r rs) (hl : New 3 tL G0 G W.l wd.leases.length (wd.leases.flatMap lc)) (ht : New 1 tS G0 G W.t wd.scan.2.length (ints wd.scan.2)) (hn : ((bl W.r ++ rs.flatMap fun x => bl x.2.2.1) ++ (bl W.l ++ bl W.t)).Nodup) : WdN tN tL tS lc G0 G W wd rs := ⟨hr, hl, ht, hn⟩
theorem cwNd {G2 G3 : View} {r l t : Value} {m k : Nat} {cs ds : List Value} (hr : RgNew tN tS G0 G1 r qs) (hl : New 3 tL G0 G2 l m cs) (ht : New 1 tS G0 G3 t k ds) (hG2 : VLe G1 G2) (hG3 : VLe G2 G3) (hlb : ∀ b ∈ bl l, G1 b = none) (htb : ∀ b ∈ bl t, G2 b = none) :
    ((bl r ++ qs.flatMap fun x => bl x.2.2.1) ++ (bl l ++ bl t)).Nodup := by
  have h1 := Bks.app (Bks.app hr.bk hl.bk hG2 hlb) ht.bk hG3 htb
  refine (List.Perm.nodup_iff ?_).1 h1.1
  refine List.perm_iff_count.2 fun x => ?_
  simp only [List.count_append]; omega
theorem OSx.pubF {sz t : Nat} {α : Type} {cc : α → List Value} {xs : List α} {A : Own} (hc : ∀ x, (cc x).length = sz) (hK : K e w G (A ++ L)) (ho : OSx sz t v xs.length (xs.flatMap cc) A) (hG : VLe G0 G) :
    ∃ G', VLe G G' ∧ SlR sz (EF cc) G' v xs ∧ New sz t G0 G' v xs.length (xs.flatMap cc) ∧ (∀ b ∈ bl v, G b = none) ∧ K e w G' L := by
  rcases ho with ho | ⟨h0, rfl, _, b, rfl⟩
  · exact K.pubEF hc hK ho hG
  · obtain rfl := List.eq_nil_of_length_eq_zero h0
    exact ⟨G, VLe.refl _, SlR.lit0, New.lit0, fun _ hb => by simp [bl] at hb, hK⟩
theorem WdP.pubF (h : WdP G0 G tN tL lc tI tS W wd rs AI AS) (hG0 : VLe G0 G) (hK : K e w G (AI ++ (AS ++ L))) : ∃ G', VLe G G' ∧ WdS G' lc W wd rs ∧ WdF lc tN tL tI tS G0 G' W wd rs ∧ K e w G' L := by
  obtain ⟨G1, g1, h1, n1, b1, hK⟩ := OSx.pubF (cc := ic) (fun _ => rfl) hK h.items hG0
  obtain ⟨G2, g2, h2, n2, b2, hK⟩ := OSx.pubF (cc := fun n => [.int .i64 n]) (fun _ => rfl) hK h.since (hG0.trans g1)
  have hg := g1.trans g2
  have k1 := Bks.app h.nw.bk n1.bk g1 b1
  have k2 := Bks.app k1 n2.bk g2 b2
  refine ⟨G2, hg, ⟨h.now, h.ring.mono hg, h.rg, EF.mono h.leases hg, EF.mono h1 g2, h.next, h.told.mono hg, h2⟩, ⟨h.nw.ring.out.mono hg, h.nw.ring.inn.mono hg, h.nw.leases.mono hg, n1.mono g2, h.nw.told.mono hg, by rw [ints_flat]; exact n2, ?_⟩, hK⟩
  refine (List.Perm.nodup_iff ?_).1 k2.1
  unfold wb
  generalize bl W.s = S; generalize bl W.i = I; generalize bl W.l = Lb; generalize bl W.t = T; generalize bl W.r = R; generalize (rs.flatMap fun x => bl x.2.2.1) = N
  refine List.perm_iff_count.2 fun x => ?_
  simp only [List.count_append]; omega
theorem wdf5 {G2 G3 G4 G5 : View} (hr : RgNew tN tS G0 G1 W.r qs) (hl : New 3 tL G0 G2 W.l wd.leases.length (wd.leases.flatMap lc)) (bL : ∀ b ∈ bl W.l, G1 b = none) (hi : New 2 tI G0 G3 W.i wd.items.length (wd.items.flatMap ic)) (bI : ∀ b ∈ bl W.i, G2 b = none)
    (ht : New 1 tS G0 G4 W.t wd.scan.2.length (ints wd.scan.2)) (bT : ∀ b ∈ bl W.t, G3 b = none) (hs : New 1 tS G0 G5 W.s wd.since.length (ints wd.since)) (bS : ∀ b ∈ bl W.s, G4 b = none) (g2 : VLe G1 G2) (g3 : VLe G2 G3) (g4 : VLe G3 G4) (g5 : VLe G4 G5) :
    WdF lc tN tL tI tS G0 G5 W wd qs := by
  have k1 := Bks.app hr.bk hl.bk g2 bL
  have k2 := Bks.app k1 hi.bk g3 bI
  have k3 := Bks.app k2 ht.bk g4 bT
  have k4 := Bks.app k3 hs.bk g5 bS
  have e35 := g4.trans g5
  have e25 := g3.trans e35
  have e15 := g2.trans e25
  refine ⟨hr.out.mono e15, hr.inn.mono e15, hl.mono e25, hi.mono e35, ht.mono g5, hs, ?_⟩
  refine (List.Perm.nodup_iff ?_).1 k4.1
  unfold wb
  generalize bl W.s = S; generalize bl W.i = I; generalize bl W.l = Lb; generalize bl W.t = T; generalize bl W.r = R; generalize (qs.flatMap fun x => bl x.2.2.1) = N
  refine List.perm_iff_count.2 fun x => ?_
  simp only [List.count_append]; omega
/-! leases -/
def LsF (tL : TypeId) (lc : Ls → List Value) (G0 G : View) (r : Value) (o : List Ls × Bool) : Prop := ∃ v, r = .tuple #[v, .bool o.2] ∧ SlR 3 (EF lc) G v o.1 ∧ New 3 tL G0 G v o.1.length (o.1.flatMap lc)
theorem LsF.mk {b : Bool} {x : List Ls} {o : List Ls × Bool} (ho : o = (x, b)) (h : SlR 3 (EF lc) G v x) (hn : New 3 tL G0 G v x.length (x.flatMap lc)) : LsF tL lc G0 G (.tuple #[v, .bool b]) o := by
  subst ho; exact ⟨v, rfl, h, hn⟩
def HdF (tL TE : Nat) (a0 a1 : Addr) (lc : Ls → List Value) (G0 G : View) (ls : List Ls) (ok : Prop) (o : Option (List Ls)) (r : Value) : Prop :=
  (¬ (LsOk ls ∧ ok) ∧ r = .tuple #[.slice none 0 0, .iface TE (.pointer (some a0))]) ∨ (LsOk ls ∧ ok ∧ o = none ∧ r = .tuple #[.slice none 0 0, .iface TE (.pointer (some a1))]) ∨
    ∃ v x, LsOk ls ∧ ok ∧ o = some x ∧ r = .tuple #[v, .nilIface] ∧ SlR 3 (EF lc) G v x ∧ New 3 tL G0 G v x.length (x.flatMap lc)
end
open Go
section
variable {P : Program} {n : Nat} {Q : Po} {f : Sl} {w : World} {ops : Array Oper} {rest : List Oper}
  {dst : Option Tmp} {d : Nat} {ty : TypeId} {pos : String} {af : Array Edge} {g : Option (Nat × Bool)} {e : World} {G : View} {L A : Own}
end
open Go
section
variable {P : Program} {n : Nat} {f : Sl} {w : World} {dst : Option Tmp} {ty : TypeId} {pos : String} {af : Array Edge} {g : Option (Nat × Bool)}
end
def BsR {α : Type} (key : α → Int) (xs : List α) (k : Int) (i : Nat) (b : Bool) : Prop :=
  i ≤ xs.length ∧ (∀ x ∈ xs.take i, key x < k) ∧ (∀ h : i < xs.length, k ≤ key xs[i]) ∧ (b = true ↔ ∃ h : i < xs.length, key xs[i] = k)
section
variable {α : Type} {key : α → Int} {xs : List α} {k : Int} {i : Nat} {b : Bool}
theorem bs_hi (hs : xs.Pairwise (fun a b => key a < key b)) (hi : i < xs.length) (hk : k ≤ key xs[i]) : ∀ x ∈ xs.drop i, k ≤ key x := by
  intro x hx
  obtain ⟨j, hj⟩ := List.getElem?_of_mem hx
  rw [List.getElem?_drop] at hj
  obtain ⟨hjl, rfl⟩ := List.getElem?_eq_some_iff.1 hj
  rcases Nat.eq_zero_or_pos j with h | h
  · subst h; simpa using hk
  · have := List.pairwise_iff_getElem.1 hs i (i + j) hi hjl (by omega); omega
theorem BsR.take (h : BsR key xs k i b) : xs.takeWhile (fun x => decide (key x < k)) = xs.take i ∧ xs.dropWhile (fun x => decide (key x < k)) = xs.drop i :=
  tw_gen (fun x hx => decide_eq_true (h.2.1 x hx)) (fun hl => decide_eq_false (by have := h.2.2.1 hl; omega))
theorem BsR.no (hs : xs.Pairwise (fun a b => key a < key b)) (h : BsR key xs k i b) (hb : b = false) : ∀ x ∈ xs, key x ≠ k := by
  intro x hx
  rw [← List.take_append_drop i xs] at hx
  rcases List.mem_append.1 hx with hx | hx
  · have := h.2.1 x hx; omega
  · have hil : i < xs.length := by
      rcases Nat.lt_or_ge i xs.length with h1 | h1
      · exact h1
      · rw [List.drop_eq_nil_of_le h1] at hx; cases hx
    have h1 := h.2.2.1 hil
    have h2 : key xs[i] ≠ k := fun he => by have := h.2.2.2.2 ⟨hil, he⟩; rw [hb] at this; cases this
    have := bs_hi (k := k + 1) hs hil (by omega) x hx
    omega
end
open Go
section
variable {P : Program} {n : Nat} {f : Sl} {w : World} {dst : Option Tmp} {ty : TypeId} {pos : String} {af : Array Edge} {g : Option (Nat × Bool)}
end
section
variable {P : Program} {n : Nat} {f : Sl} {w : World} {dst : Option Tmp} {ty : TypeId} {pos : String} {af : Array Edge} {g : Option (Nat × Bool)}
end
theorem K.neq {e w : World} {G : View} {L : Own} {b1 b2 : Nat} {o1 o2 : Obj} (hK : K e w G ((b1, o1) :: (b2, o2) :: L)) : b1 ≠ b2 := by
  have := hK.nodup
  simp only [List.map_cons, List.nodup_cons, List.mem_cons] at this
  exact fun h => this.1 (.inl h)
section
variable {α : Type} {c : α → List Value} {sz : Nat}
end
section
variable {α : Type} {c : α → List Value} {sz t b cap : Nat} {cur : Array Value} {xs : List α} {x : α} {i : Nat}
end
open Go
def ErrS (TE ga gb : Nat) (G : View) (a0 a1 : Addr) : Prop :=
  cellV G ⟨ga, 0, none⟩ = some (.iface TE (.pointer (some a0))) ∧ cellV G ⟨gb, 0, none⟩ = some (.iface TE (.pointer (some a1))) ∧ a0 ≠ a1 ∧
    (∃ c t, G a0.block = some (.cells c t (0, 0))) ∧ (∃ c t, G a1.block = some (.cells c t (0, 0)))
theorem ErrS.mono {TE ga gb : Nat} {G G' : View} {a0 a1 : Addr} (h : ErrS TE ga gb G a0 a1) (hG : VLe G G') : ErrS TE ga gb G' a0 a1 :=
  ⟨cellV.mono hG h.1, cellV.mono hG h.2.1, h.2.2.1, by obtain ⟨c, t, hc⟩ := h.2.2.2.1; exact ⟨c, t, hG _ _ hc⟩, by obtain ⟨c, t, hc⟩ := h.2.2.2.2; exact ⟨c, t, hG _ _ hc⟩⟩
def HdR (TE : Nat) (a0 a1 : Addr) (lc : Ls → List Value) (G : View) (ls : List Ls) (ok : Prop) (o : Option (List Ls)) (r : Value) : Prop :=
  (¬ (LsOk ls ∧ ok) ∧ r = .tuple #[.slice none 0 0, .iface TE (.pointer (some a0))]) ∨ (LsOk ls ∧ ok ∧ o = none ∧ r = .tuple #[.slice none 0 0, .iface TE (.pointer (some a1))]) ∨
    ∃ v x, LsOk ls ∧ ok ∧ o = some x ∧ r = .tuple #[v, .nilIface] ∧ SlR 3 (EF lc) G v x
theorem BsR.at {ls : List Ls} {k : Int} {i : Nat} {b : Bool} (h : BsR (fun x : Ls => x.1) ls k i b) (y : Ls) :
    ls.takeWhile (fun x => decide (x.1 < k)) ++ y :: ls.dropWhile (fun x => decide (x.1 < k)) = ls.take i ++ y :: ls.drop i := by
  rw [h.take.1, h.take.2]
open Go
theorem OSx.ef {α : Type} {c : α → List Value} {G : View} {A : Own} {t sz : Nat} {v : Value} {xs : List α} (hc : ∀ x, (c x).length = sz) (ho : OSx sz t v xs.length (xs.flatMap c) A) : SlR sz (EF c) (addV G A) v xs := by
  rcases ho with ho | ⟨h0, rfl, _, b, rfl⟩
  · exact OS.ef hc ho
  · obtain rfl := List.eq_nil_of_length_eq_zero h0
    exact SlR.lit0
theorem WdO.all {G : View} {lc : Ls → List Value} {tI tS TG bk : TypeId} {W : Wv} {wd : Wd} {rs : List Rn} {AI AS L : Own} {e w : World} {m0 m1 : Value} (h : WdO G lc tI tS W wd rs AI AS) (hK : K e w G ((bk, row (m0 :: m1 :: wc W) TG) :: (AI ++ (AS ++ L)))) :
    ∃ Gf, VLe G Gf ∧ WdS Gf lc W wd rs ∧ (∀ (j : Nat) u, (wc W)[j]? = some u → cellV Gf ⟨bk, 2 + j, none⟩ = some u) ∧ K e w Gf L ∧ (∀ w' L', K e w' Gf L' → K e w' G ((bk, row (m0 :: m1 :: wc W) TG) :: (AI ++ (AS ++ L')))) := by
  have h0 : K e w G (AI ++ ((bk, row (m0 :: m1 :: wc W) TG) :: (AS ++ L))) := K.mid (A := [_]) (B := AI) hK
  have h1 := h0.pub
  have h2 : K e w (addV G AI) (AS ++ ((bk, row (m0 :: m1 :: wc W) TG) :: L)) := K.mid (A := [_]) (B := AS) h1
  have h3 := h2.pub
  have h4 : K e w (addV (addV G AI) AS) ([(bk, row (m0 :: m1 :: wc W) TG)] ++ L) := h3
  have h5 := h4.pub
  have hG := (h0.addV_le.trans h2.addV_le).trans h4.addV_le
  refine ⟨_, hG, ⟨h.now, h.ring.mono hG, h.rg, EF.mono h.leases hG, EF.mono (OSx.ef (c := ic) (fun _ => rfl) h.items) (h2.addV_le.trans h4.addV_le), h.next, h.told.mono hG, EF.mono (c := fun n => [.int .i64 n]) (OSx.ef (c := fun n => [.int .i64 n]) (fun _ => rfl) h.since) h4.addV_le⟩, fun j u hj => ?_, h5, fun w' L' h' => ?_⟩
  · have := cellV_row (G := addV (addV (addV G AI) AS) [(bk, row (m0 :: m1 :: wc W) TG)]) (addV_mem (by simp) (List.mem_cons_self ..)) (2 + j)
    rw [this]
    rw [show 2 + j = j + 1 + 1 by omega, List.getElem?_cons_succ, List.getElem?_cons_succ]
    exact hj
  · have g4 : K e w' (addV (addV G AI) AS) ([(bk, row (m0 :: m1 :: wc W) TG)] ++ L') := h4.unpub' h'
    have g2 : K e w' (addV G AI) (AS ++ ((bk, row (m0 :: m1 :: wc W) TG) :: L')) := h2.unpub' g4
    have g1 : K e w' (addV G AI) ((bk, row (m0 :: m1 :: wc W) TG) :: (AS ++ L')) := K.mid (A := AS) (B := [_]) g2
    exact K.mid (A := AI) (B := [_]) (h0.unpub' g1)
section
variable {b c : Int} {xs : List It} {i : Nat}
end
open Go
abbrev Ev := Int × Int × Int × Int
def evc (x : Ev) : List Value := [.int .i64 x.1, .int .i64 x.2.1, .int .i64 x.2.2.1, .int .i64 x.2.2.2]
abbrev EvS := SlR 4 (EF evc)
noncomputable def doE (w : Wd) (x : Ev) : Wd := doW w x.1 x.2.1 x.2.2.1 x.2.2.2
noncomputable def plE (w : Wd) (es : List Ev) : Wd := es.foldl doE w
noncomputable def plF (xs : List Int) (es : List Ev) : Wd := plE (newW xs) es
def PlOk (xs : List Int) (es : List Ev) : Prop := (NdsOk xs ∧ 3 ≤ xs.length) ∧ es.length ≤ 80
def calN (n : Int) : Int := min (n + 21) 999
def calW (w : Wd) : Wd := ⟨calN w.now, idl (ids w.ring), (ids w.ring).map (fun k => (k, k, utl (calN w.now))), w.items, w.scan, w.since⟩
noncomputable def calF (w : Wd) : Wd := if dec (WdOk w) = true then calW w else wdZ
theorem calF_no {w : Wd} (h : ¬ WdOk w) : calF w = wdZ := by unfold calF; rw [if_neg (by rw [dec_f h]; simp)]
theorem calF_yes {w : Wd} (h : WdOk w) : calF w = calW w := if_pos (dec_t h)
theorem nds_ids {r : List Nd} (h : RgSafe r) : NdsOk (ids r) := ⟨⟨by have := ids3 h; omega, by rw [ids_len]; exact h.1.1⟩, ids_asc h.1⟩
theorem calN_tm {n : Int} (h : Tm n) : Tm (calN n) := by unfold Tm calN at *; omega
theorem calW_ok {w : Wd} (h : WdOk w) : WdOk (calW w) :=
  ⟨calN_tm h.1, idl_safe (nds_ids h.2.1) (ids3 h.2.1), newLs_ok (nds_ids h.2.1) (utl_tm (calN_tm h.1)), h.2.2.2.1, h.2.2.2.2.1, h.2.2.2.2.2.1, h.2.2.2.2.2.2⟩
def Sct (ls : List Ls) (ks : List Int) (i : Nat) (s : Sn) : Prop := ∃ j, j ≤ i ∧ s = itr ls ks j ∧ (∀ l, l < j → (itr ls ks l).1 < 64) ∧ (s.1 = 64 ∨ j = i)
theorem Sct.zero {ls : List Ls} {ks : List Int} : Sct ls ks 0 (0, []) := ⟨0, Nat.le_refl _, rfl, fun _ h => absurd h (Nat.not_lt_zero _), .inr rfl⟩
theorem Sct.done {ls : List Ls} {ks : List Int} {s : Sn} (hl : LsOk ls) (hk : Asc ks) (h : Sct ls ks (ls.length + 1) s) : s.1 = 64 ∧ s.2 = ks := by
  obtain ⟨j, hj, rfl, h1, h2⟩ := h
  obtain ⟨g1, _, _, g4⟩ := itr_ok hl hk j h1
  have hc := List.countP_le_length (l := ls) (p := fun x => decide (x.1 < (itr ls ks j).1))
  rcases h2 with h2 | h2
  · exact ⟨h2, (Whole.told hl hk ⟨h2, h1⟩).1⟩
  · by_cases h3 : (itr ls ks j).1 = 64
    · exact ⟨h3, (Whole.told hl hk ⟨h3, h1⟩).1⟩
    · rw [if_neg h3] at g4; omega
theorem doW_scan (w : Wd) (a b c : Int) : doW w 14 a b c = scW w := by
  unfold doW; rw [if_neg (by omega), if_neg (by omega), if_neg (by omega), if_neg (by omega), if_pos rfl]
theorem Sct.step {w : Wd} {i : Nat} {s : Sn} (ho : ∀ k, 0 ≤ own w k) (hl : LsOk w.leases) (hk : Asc (keys w.items)) (h : Sct w.leases (keys w.items) i s) :
    ∃ s', doW { w with scan := s } 14 0 0 0 = { w with scan := s' } ∧ Sct w.leases (keys w.items) (i + 1) s' := by
  obtain ⟨j, hj, rfl, h1, h2⟩ := h
  rw [doW_scan]
  unfold scW
  by_cases h3 : (itr w.leases (keys w.items) j).1 < 64
  · refine ⟨itr w.leases (keys w.items) (j + 1), if_pos ⟨h3, ho _⟩, j + 1, by omega, rfl, fun l hl => ?_, ?_⟩
    · rcases Nat.lt_succ_iff_lt_or_eq.1 hl with g | g
      · exact h1 l g
      · rw [g]; exact h3
    · rcases h2 with h2 | h2
      · omega
      · exact .inr (by omega)
  · refine ⟨itr w.leases (keys w.items) j, if_neg fun g => h3 g.1, j, by omega, rfl, h1, .inl ?_⟩
    have := (itr_ok hl hk j h1).1.1.2
    omega
end Go.Ro
