/- append, reslicing, and slices of bytes. More operations: exclusive or; bytes by an index that is an integer. make of a slice. Maps from int to int, made by the walk itself. Conditions: those that each row states. -/
import Derived.Test.YtmgggljicpmndaaGreatDoorFin
namespace Go.Ro
open Go
def OS (sz : Nat) (t : TypeId) (v : Value) (m : Nat) (cs : List Value) (A : Own) : Prop :=
  cs.length = m * sz ∧ ((v = .slice none 0 0 ∧ m = 0 ∧ A = []) ∨
    ∃ b cap cur, v = .slice (some ⟨b, 0, none⟩) m cap ∧ A = [(b, .cells cur t (0, 0))] ∧ m ≤ cap ∧ cap ≤ maxLen ∧ cur.size = cap * sz ∧ cur.toList.take (m * sz) = cs)
theorem OS.nil (sz : Nat) (t : TypeId) : OS sz t (.slice none 0 0) 0 [] [] := ⟨by simp, .inl ⟨rfl, rfl, rfl⟩⟩
theorem OS.lit {sz : Nat} {t : TypeId} {b m : Nat} {cs : List Value} (hl : cs.length = m * sz) (hm : m ≤ 1000000000) : OS sz t (.slice (some ⟨b, 0, none⟩) m m) m cs [(b, row cs t)] :=
  ⟨hl, .inr ⟨b, m, cs.toArray, rfl, rfl, Nat.le_refl _, by unfold maxLen; omega, by simpa using hl, by rw [← hl]; simp⟩⟩
theorem OS.len {sz : Nat} {t : TypeId} {v : Value} {m : Nat} {cs : List Value} {A : Own} (h : OS sz t v m cs A) : SlLen v m := by
  rcases h.2 with ⟨rfl, rfl, _⟩ | ⟨b, cap, _, rfl, _⟩
  · exact ⟨_, _, rfl⟩
  · exact ⟨_, _, rfl⟩
theorem OS.slw {sz : Nat} {t : TypeId} {v : Value} {m : Nat} {cs : List Value} {A : Own} (h : OS sz t v m cs A) : SlW v m := by
  rcases h.2 with ⟨rfl, rfl, _⟩ | ⟨b, cap, _, rfl, _, h1, h2, _⟩
  · exact ⟨_, _, rfl, Nat.le_refl _, Nat.zero_le _, .inl rfl⟩
  · exact ⟨_, _, rfl, h1, h2, .inr ⟨_, _, rfl⟩⟩
theorem OS.one {sz : Nat} {t : TypeId} {v : Value} {m : Nat} {cs : List Value} {A : Own} (h : OS sz t v m cs A) : one v = true := by
  rcases h.2 with ⟨rfl, _⟩ | ⟨b, cap, _, rfl, _⟩ <;> rfl
theorem SlW.one {v : Value} {m : Nat} (h : SlW v m) : one v = true := by obtain ⟨_, _, rfl, _⟩ := h; rfl
theorem OS.cell {sz : Nat} {t : TypeId} {v : Value} {m : Nat} {cs : List Value} {A : Own} (h : OS sz t v m cs A) {e w : World} {G : View} {L : Own} (hK : K e w G (A ++ L)) {j : Nat} {c : Value} (hj : cs[j]? = some c) :
    w.cell? (elA v j) = some c := by
  obtain ⟨hl, h⟩ := h
  have hlt := (List.getElem?_eq_some_iff.1 hj).1
  rcases h with ⟨_, rfl, _⟩ | ⟨b, cap, cur, rfl, rfl, h1, h2, h3, h4⟩
  · simp at hl; rw [hl] at hlt; exact absurd hlt (Nat.not_lt_zero _)
  · have hb := hK.own b _ (List.mem_append_left _ (List.mem_cons_self ..))
    subst h4
    rw [List.getElem?_take] at hj
    split at hj
    · simp only [elA, World.cell?, hb, Nat.zero_add]; simpa using hj
    · cases hj
theorem OS.pub {α : Type} {E : View → List Value → α → Prop} {sz : Nat} {t : TypeId} {v : Value} {cs : List Value} {A : Own} {xs : List α} {G : View} (h : OS sz t v xs.length cs A) (hn : (A.map (·.1)).Nodup)
    (hE : ∀ i x, xs[i]? = some x → ∃ c, c.length = sz ∧ (∀ j u, c[j]? = some u → cs[i * sz + j]? = some u) ∧ E (addV G A) c x) : SlR sz E (addV G A) v xs := by
  refine ⟨h.slw, fun i x hx => ?_⟩
  obtain ⟨c, h1, h2, h3⟩ := hE i x hx
  refine ⟨c, h1, fun j u hj => ?_, h3⟩
  have hc := h2 j u hj
  have hlt := (List.getElem?_eq_some_iff.1 hc).1
  rcases h.2 with ⟨_, h0, _⟩ | ⟨b, cap, cur, rfl, rfl, g1, g2, g3, g4⟩
  · rw [h.1, h0] at hlt; simp at hlt
  · unfold cellV
    have : addV G [(b, Obj.cells cur t (0, 0))] b = some (Obj.cells cur t (0, 0)) := addV_mem hn (List.mem_cons_self ..)
    simp only [elA, Nat.zero_add, this]
    rw [← g4, List.getElem?_take] at hc
    split at hc
    · simpa using hc
    · cases hc
theorem OS.nodup {sz : Nat} {t : TypeId} {v : Value} {m : Nat} {cs : List Value} {A : Own} (h : OS sz t v m cs A) : (A.map (·.1)).Nodup := by
  rcases h.2 with ⟨_, _, rfl⟩ | ⟨b, cap, cur, _, rfl, _⟩ <;> simp
section
variable {P : Program} {n : Nat} {Q : Po} {f : Sl} {w : World} {ops : Array Oper} {rest : List Oper}
  {dst : Option Tmp} {d : Nat} {ty : TypeId} {pos : String} {af : Array Edge} {g : Option (Nat × Bool)} {e : World} {G : View} {L A : Own}
theorem run_append {T E' ty' sz bytes m k : Nat} {z v : Value} {cs news : List Value} (hK : K e w G (A ++ L)) (hT : P.underlying T = some (.slice E')) (hi : Inf P E' z sz bytes) (hzc : z.cells.size = sz)
    (ho : OS sz E' v m cs A) {b2 : Option Addr} {c2 : Nat} (hl : news.length = k * sz) (hb2 : k = 0 ∨ ∃ b o, b2 = some ⟨b, o, none⟩)
    (hu : ∀ j c, news[j]? = some c → w.cell? (elA (.slice b2 k c2) j) = some c) (h1 : ∀ u ∈ news, Ro.one u = true) (hmk : m + k ≤ 1000000000) (hby : bytes ≤ 1000) :
    ∃ v' A' w1, (Builtin.append_ #[T, T] ty' #[v, .slice b2 k c2]).run P w = .ok v' w1 ∧ OS sz E' v' (m + k) (cs ++ news) A' ∧ K e w1 G (A' ++ L) := by
  obtain ⟨i, g1, g2, g3, g4⟩ := hi.get
  have hlen : (cs ++ news).length = (m + k) * sz := by rw [List.length_append, ho.1, hl, Nat.add_mul]
  have one' : ∀ u ∈ news, u.oneCell' = true := fun u hu' => by have := h1 u hu'; cases u <;> first | rfl | (simp [Ro.one] at this)
  rcases Nat.eq_zero_or_pos k with hk | hk
  · subst hk
    have hn : news = [] := List.eq_nil_of_length_eq_zero (by simpa using hl)
    subst hn
    have hfc : ∀ x : Option Addr, (Builtin.firstCells sz 0 (.slice x 0 c2)).run P w = .ok #[] w := by
      intro x; cases x <;> simp [Builtin.firstCells, loadCells, loadCellsFrom]
    refine ⟨v, A, w, ?_, by simpa using ho, hK⟩
    rcases ho.2 with ⟨rfl, rfl, _⟩ | ⟨b, cap, cur, rfl, _, p1, _⟩
    · simp [Builtin.append_, run_underlying hT, sizeOf, typeInfo, g1, g3, Builtin.lenOf, hfc]
    · simp [Builtin.append_, run_underlying hT, sizeOf, typeInfo, g1, g3, Builtin.lenOf, hfc, p1, storeCells]
  · obtain ⟨b, o, rfl⟩ : ∃ b o, b2 = some ⟨b, o, none⟩ := by
      rcases hb2 with h | h
      · omega
      · exact h
    have hnews : ∀ j u, news[j]? = some u → w.cell? ((⟨b, o, none⟩ : Addr).add j) = some u := by
      intro j u hj
      have := hu j u hj
      have hadd : (⟨b, o, none⟩ : Addr).add j = ⟨b, o + j, none⟩ := by
        unfold Addr.add
        split
        · rename_i h; rw [h]; rfl
        · rfl
      rw [hadd]; exact this
    have grown : ∀ old, old < m + k → OS sz E' (.slice (some ⟨w.heap.size, 0, none⟩) (m + k) (grownCap w (m + k) old E')) (m + k) (cs ++ news)
        [(w.heap.size, .cells (cs.toArray ++ news.toArray ++ Builtin.zeroCells z.cells (grownCap w (m + k) old E' - (m + k))) E' (0, 0))] := by
      intro old hold
      have hge := grownCap_ge w (m + k) old E'
      refine ⟨hlen, .inr ⟨_, _, _, rfl, rfl, hge, grownCap_le_maxLen w (m + k) old E' (by unfold maxLen; omega), ?_, ?_⟩⟩
      · simp only [Array.size_append, List.size_toArray, size_zeroCells, hzc, ho.1, hl, ← Nat.add_mul]
        congr 1
        omega
      · simp only [Array.toList_append, List.append_assoc]
        rw [← List.append_assoc, ← hlen]
        exact List.take_left
    have hKg : ∀ x : Obj, K e (w.drew.alloc x) G ((w.heap.size, x) :: L) := fun x => (K.drawn hK.dropL (w.drawn + 1)).alloc x
    rcases ho.2 with ⟨rfl, rfl, rfl⟩ | ⟨bb, cap, cur, rfl, rfl, p1, p2, p3, p4⟩
    · have hcs : cs = [] := List.eq_nil_of_length_eq_zero (by simpa using ho.1)
      subst hcs
      have hr := run_append_nil (P := P) w T ty' E' i z hT g1 g2 ⟨b, o, none⟩ k c2 news (by rw [g3]; exact hl) hnews hk (by omega) (by rw [g4]; have := Nat.mul_le_mul (show k ≤ 1000000000 by omega) hby; omega)
      have hg := grown 0 (by omega)
      simp only [Nat.zero_add, List.nil_append, Array.empty_append] at hg ⊢
      exact ⟨_, _, _, hr, hg, hKg _⟩
    · by_cases hroom : m + k ≤ cap
      · have hbb := hK.own bb _ (List.mem_append_left _ (List.mem_cons_self ..))
        have hfit : m * i.size + news.length ≤ cur.size := by rw [g3, hl, p3, ← Nat.add_mul]; exact Nat.mul_le_mul_right _ hroom
        have hr := run_append_room (P := P) w T ty' E' i hT g1 bb m cap cur hbb ⟨b, o, none⟩ k c2 news (by rw [g3]; exact hl) hnews one' hroom hfit
        generalize hcur : (cur.toList.take (m * i.size) ++ news ++ cur.toList.drop (m * i.size + news.length)).toArray = cur' at hr
        refine ⟨_, [(bb, .cells cur' E' (0, 0))], _, hr, ⟨hlen, .inr ⟨bb, cap, cur', rfl, rfl, hroom, p2, ?_, ?_⟩⟩, ?_⟩
        · rw [← hcur]
          simp only [List.size_toArray, List.length_append, List.length_take, List.length_drop, Array.length_toList]
          omega
        · rw [← hcur, g3, p4, ← hlen]
          exact List.take_left
        · exact K.write (L := L) hK rfl rfl rfl (setRow_heap w bb cur _ E' _ hbb) (fun k' hk' x hx => by rw [setRow_other w bb k' _ hk']; exact hx)
      · have holds : ∀ j u, cs[j]? = some u → w.cell? ((⟨bb, 0, none⟩ : Addr).add j) = some u := by
          intro j u hj
          have := ho.cell hK hj
          have hadd : (⟨bb, 0, none⟩ : Addr).add j = ⟨bb, 0 + j, none⟩ := by
            unfold Addr.add
            split
            · rename_i h; rw [h]
            · rfl
          rw [hadd]; exact this
        have hfits : Builtin.nextslicecap (m + k) cap * i.bytes ≤ 281474976710656 := growslice_fits (by omega) (by rw [g4]; have := Nat.mul_le_mul hmk hby; omega)
        have hr := run_append_grow (P := P) w T ty' E' i z hT g1 g2 ⟨bb, 0, none⟩ m cap cs (by rw [g3]; exact ho.1) holds ⟨b, o, none⟩ k c2 news (by rw [g3]; exact hl) hnews (by omega) (by omega) hfits
        exact ⟨_, _, _, hr, grown cap (by omega), hKg _⟩
theorem ap {T E' ty' sz bytes m k : Nat} {z v u : Value} {x y : Operand} {cs news : List Value} (hK : K e w G (A ++ L)) (hT : P.underlying T = some (.slice E')) (hi : Inf P E' z sz bytes) (hzc : z.cells.size = sz) (hby : Nat.ble bytes 1000 = true)
    (hx : ev n f x = v) (ho : OS sz E' v m cs A) (hy : ev n f y = u) (hs : SlW u k) (hl : news.length = k * sz)
    (hu : ∀ j c, news[j]? = some c → w.cell? (elA u j) = some c) (h1 : ∀ u ∈ news, Ro.one u = true) (hmk : m + k ≤ 1000000000)
    (h : ∀ v' A' w1, OS sz E' v' (m + k) (cs ++ news) A' → K e w1 G (A' ++ L) → WL P n ops Q rest (upd f d v') w1) :
    WL P n ops Q (⟨some d, .call ⟨.builtin .append, #[x, y], #[T, T]⟩, ty', pos, af, none⟩ :: rest) f w := by
  obtain ⟨b2, c2, rfl, _, _, hb2⟩ := hs
  obtain ⟨v', A', w1, hr, h2, h3⟩ := run_append (P := P) (ty' := ty') hK hT hi hzc ho hl hb2 hu h1 hmk (Nat.le_of_ble_eq_true hby)
  refine vl ?_ (h v' A' w1 h2 h3)
  unfold St execOp
  simp only [resolve, Sem.run_bind, Sem.run_pure, Result.andThen_ok, invoke, builtin, List.map_toArray, List.map_cons, List.map_nil, hx, hy, hr]
theorem ap1 {T E' E2 ty' sz bytes m k b2 : Nat} {z v : Value} {x y : Operand} {cs news : List Value} (hK : K e w G ((b2, row news E2) :: (A ++ L))) (hT : P.underlying T = some (.slice E')) (hi : Inf P E' z sz bytes) (hzc : z.cells.size = sz) (hby : Nat.ble bytes 1000 = true)
    (hx : ev n f x = v) (ho : OS sz E' v m cs A) (hy : ev n f y = .slice (some ⟨b2, 0, none⟩) k k) (hl : news.length = k * sz) (h1' : news.all Ro.one = true) (hmk : m + k ≤ 1000000000)
    (h : ∀ v' A' w1, OS sz E' v' (m + k) (cs ++ news) A' → K e w1 G (A' ++ L) → WL P n ops Q rest (upd f d v') w1) :
    WL P n ops Q (⟨some d, .call ⟨.builtin .append, #[x, y], #[T, T]⟩, ty', pos, af, none⟩ :: rest) f w := by
  have hb := hK.own b2 _ (List.mem_cons_self ..)
  refine ap (K.mid1 hK) hT hi hzc hby hx ho hy ⟨_, _, rfl, Nat.le_refl _, by unfold maxLen; omega, .inr ⟨_, _, rfl⟩⟩ hl ?_ (List.all_eq_true.1 h1') hmk (fun v' A' w1 h2 h3 => h v' A' w1 h2 (K.drop1 (K.back1 h3)))
  intro j c hj
  simp only [elA, Nat.zero_add]
  rw [row_cell hb]; exact hj
/-! reslicing -/
def slc (v : Value) (l h sz : Nat) : Value :=
  match v with
  | .slice a _ c => .slice (if c = l then a else a.map (·.add (l * sz))) (h - l) (c - l)
  | v => v
theorem slcW {v : Value} {m l h sz : Nat} (hs : SlW v m) (h1 : l ≤ h) (h2 : h ≤ m) : SlW (slc v l h sz) (h - l) := by
  obtain ⟨a, c, rfl, g1, g2, g3⟩ := hs
  refine ⟨_, _, rfl, by omega, by omega, ?_⟩
  rcases Nat.eq_zero_or_pos (h - l) with h0 | h0
  · exact .inl h0
  · right
    rcases g3 with g3 | ⟨b, o, rfl⟩
    · omega
    · rw [if_neg (by omega)]
      refine ⟨b, o + l * sz, ?_⟩
      simp only [Option.map_some, Addr.add]
      split
      · rename_i h; rw [h]; rfl
      · rfl
theorem slcA {v : Value} {m l h sz : Nat} (hs : SlW v m) (h1 : l < h) (h2 : h ≤ m) (k : Nat) : elA (slc v l h sz) k = elA v (l * sz + k) := by
  obtain ⟨a, c, rfl, g1, g2, g3⟩ := hs
  rcases g3 with g3 | ⟨b, o, rfl⟩
  · omega
  · simp only [slc]
    rw [if_neg (by omega)]
    simp only [Option.map_some, Addr.add, elA]
    split
    · rename_i h; simp [h]
    · simp [Nat.add_assoc]
theorem SlR.slc {α : Type} {sz : Nat} {E : View → List Value → α → Prop} {G : View} {v : Value} {xs : List α} (hs : SlR sz E G v xs) {l h : Nat} (h1 : l ≤ h) (h2 : h ≤ xs.length) : SlR sz E G (Ro.slc v l h sz) ((xs.take h).drop l) := by
  have hlen : ((xs.take h).drop l).length = h - l := by rw [List.length_drop, List.length_take]; omega
  refine ⟨by rw [hlen]; exact slcW hs.1 h1 h2, fun i x hx => ?_⟩
  have hi : i < h - l := by have := (List.getElem?_eq_some_iff.1 hx).1; omega
  rw [List.getElem?_drop, List.getElem?_take, if_pos (by omega)] at hx
  obtain ⟨cs, g1, g2, g3⟩ := hs.2 _ _ hx
  refine ⟨cs, g1, fun j c hj => ?_, g3⟩
  rw [slcA hs.1 (by omega) h2, show l * sz + (i * sz + j) = (l + i) * sz + j by rw [Nat.add_mul]; omega]
  exact g2 j c hj
theorem run_slc {T E' sz m l h : Nat} {v : Value} {lo hi : Option Value} (hT : P.underlying T = some (.slice E')) (hE : (P.info? E').map (·.size) = some sz) (hs : SlW v m)
    (hlo : (lo = none ∧ l = 0) ∨ lo = some (.int .i64 (l : Int))) (hhi : (hi = none ∧ h = m) ∨ hi = some (.int .i64 (h : Int))) (h1 : l ≤ h) (h2 : h ≤ m) (w : World) :
    (Instr.sliceAt T v lo hi none).run P w = .ok (slc v l h sz) w := by
  obtain ⟨a, c, rfl, g1, _, _⟩ := hs
  cases hq : P.info? E' with
  | none => rw [hq] at hE; cases hE
  | some q =>
    have hsz : q.size = sz := by simpa [hq] using hE
    have hb4 : h ≤ c := by omega
    rcases hlo with ⟨rfl, rfl⟩ | rfl <;> rcases hhi with ⟨rfl, rfl⟩ | rfl <;>
      simp [Instr.sliceAt, run_underlying hT, Instr.slice, Instr.sliceBounds, Instr.sliceBound, asIntOf, sizeOf, typeInfo, hq, hsz, slc, hb4, h1]
theorem slHi {T E' sz m h : Nat} {x y : Operand} {v : Value} (hT : P.underlying T = some (.slice E')) (hE : (P.info? E').map (·.size) = some sz) (hx : ev n f x = v) (hs : SlW v m)
    (hy : ev n f y = .int .i64 (h : Int)) (h2 : h ≤ m) : St P n ⟨dst, .slice T x none (some y) none, ty, pos, af, g⟩ f w (slc v 0 h sz) w := by
  unfold St execOp
  simp only [hx, Option.map_none, Option.map_some, hy, Sem.run_bind, run_slc hT hE hs (.inl ⟨rfl, rfl⟩) (.inr rfl) (Nat.zero_le _) h2, Result.andThen_ok, Sem.run_pure]
theorem slLo {T E' sz m l : Nat} {x y : Operand} {v : Value} (hT : P.underlying T = some (.slice E')) (hE : (P.info? E').map (·.size) = some sz) (hx : ev n f x = v) (hs : SlW v m)
    (hy : ev n f y = .int .i64 (l : Int)) (h2 : l ≤ m) : St P n ⟨dst, .slice T x (some y) none none, ty, pos, af, g⟩ f w (slc v l m sz) w := by
  unfold St execOp
  simp only [hx, Option.map_none, Option.map_some, hy, Sem.run_bind, run_slc hT hE hs (.inr rfl) (.inl ⟨rfl, rfl⟩) h2 (Nat.le_refl _), Result.andThen_ok, Sem.run_pure]
end
/-! bytes -/
def EB (_ : View) (cs : List Value) (x : Int) : Prop := cs = [.int .u8 x] ∧ 0 ≤ x ∧ x ≤ 255
abbrev BytS := SlR 1 EB
theorem BytS.mono {G G' : View} {v : Value} {xs : List Int} (h : BytS G v xs) (hG : VLe G G') : BytS G' v xs := SlR.mono (G := G) (G' := G') (E := EB) (fun _ _ h => h) h hG
theorem BytS.atB {G : View} {v : Value} {xs : List Int} (h : BytS G v xs) {i : Nat} (hi : i < xs.length) : cellV G (elA v i) = some (.int .u8 xs[i]) ∧ 0 ≤ xs[i] ∧ xs[i] ≤ 255 := by
  obtain ⟨cs, h1, h2, h3, h4, h5⟩ := h.get hi
  have := h2 0 (.int .u8 xs[i]) (by rw [h3]; rfl)
  exact ⟨by simpa using this, h4, h5⟩
theorem BytS.mk {w : World} {v : Value} {xs : List Int} (h : SlR 1 (fun _ cs n => cs = [.int .u8 n]) (hvw w) v xs) (hb : ∀ x ∈ xs, 0 ≤ x ∧ x ≤ 255) : BytS (hvw w) v xs :=
  ⟨h.1, fun i x hx => let ⟨cs, h1, h2, h3⟩ := h.2 i x hx; ⟨cs, h1, h2, h3, (hb x (List.mem_of_getElem? hx)).1, (hb x (List.mem_of_getElem? hx)).2⟩⟩
theorem BytS.nil {G : View} : BytS G (.slice none 0 0) [] := nil_row
open Go
def xorI (a b : Int) : Int := ((a.toNat ^^^ b.toNat : Nat) : Int)
theorem BytS.at {G : View} {v : Value} {xs : List Int} (h : BytS G v xs) {i : Nat} (hi : i < xs.length) : cellV G (elA v i) = some (.int .u8 xs[i]) := (h.atB hi).1
theorem BytS.atI {G : View} {v : Value} {xs : List Int} (h : BytS G v xs) {j : Int} (h0 : 0 ≤ j) (h1 : j < xs.length) : cellV G (elA v j.toNat) = some (.int .u8 (xs.getD j.toNat 0)) := by
  have hi : j.toNat < xs.length := by omega
  rw [h.at hi]; simp [List.getD, hi]
theorem BytS.bd {G : View} {v : Value} {xs : List Int} (h : BytS G v xs) (i : Nat) : 0 ≤ xs.getD i 0 ∧ xs.getD i 0 ≤ 255 := by
  by_cases hi : i < xs.length
  · have := (h.atB hi).2
    simpa [List.getD, hi] using this
  · simp [List.getD, List.getElem?_eq_none (Nat.le_of_not_lt hi)]
section
variable {P : Program} {n : Nat} {f : Sl} {w : World} {dst : Option Tmp} {ty : TypeId} {pos : String} {af : Array Edge} {g : Option (Nat × Bool)}
end
section
variable {P : Program} {n : Nat} {f : Sl} {ops : Array Oper} {rest : List Oper} {d : Nat} {ty : TypeId} {pos : String} {af : Array Edge} {e : World} {G : View} {L : Own} {R : Sl → Prop}
theorem qldV {T : Nat} {x : Operand} {a : Addr} {v : Value} (h1 : OneC P T) (hp : ev n f x = .pointer (some a)) (hc : cellV G a = some v) (h : WQ P n ops (fun w => K e w G L) R rest (upd f d v)) :
    WQ P n ops (fun w => K e w G L) R (⟨some d, .load T x, ty, pos, af, none⟩ :: rest) f := qv (fun _ hK => ldV hK h1 hp hc) h
theorem qldO {T : Nat} {x : Operand} {b o t : Nat} {cs : List Value} {v : Value} (h1 : OneC P T) (k : Nat) (hn : L[k]? = some (b, row cs t))
    (hp : ev n f x = .pointer (some ⟨b, o, none⟩)) (hc : cs[o]? = some v) (h : WQ P n ops (fun w => K e w G L) R rest (upd f d v)) :
    WQ P n ops (fun w => K e w G L) R (⟨some d, .load T x, ty, pos, af, none⟩ :: rest) f := qv (fun _ hK => ldO hK h1 k hn hp hc) h
theorem qlsO {T sz : Nat} {x : Operand} {b t : Nat} {cs : List Value} (h1 : AggC P T) (hs : (P.info? T).map (·.size) = some sz) (k : Nat) (hn : L[k]? = some (b, row cs t))
    (hp : ev n f x = .pointer (some ⟨b, 0, none⟩)) (hl : cs.length = sz) (h : WQ P n ops (fun w => K e w G L) R rest (upd f d (.agg cs.toArray))) :
    WQ P n ops (fun w => K e w G L) R (⟨some d, .load T x, ty, pos, af, none⟩ :: rest) f := qv (fun _ hK => lsO hK h1 hs k hn hp hl) h
end
open Go
theorem flat_get {α : Type} (zl : List α) (m : Nat) (_ : 0 < zl.length) : ∀ j, j < m * zl.length → (List.replicate m zl).flatten[j]? = zl[j % zl.length]? := by
  induction m with
  | zero => intro j h; simp at h
  | succ m ih =>
    intro j h
    rw [List.replicate_succ, List.flatten_cons, List.getElem?_append]
    split
    · rename_i hj; rw [Nat.mod_eq_of_lt hj]
    · rename_i hj
      rw [Nat.succ_mul] at h
      rw [ih (j - zl.length) (by omega), ← Nat.mod_eq_sub_mod (show zl.length ≤ j by omega)]
section
variable {P : Program} {n : Nat} {Q : Po} {f : Sl} {w : World} {ops : Array Oper} {rest : List Oper}
  {d : Nat} {ty : TypeId} {pos : String} {af : Array Edge} {e : World} {G : View} {L : Own}
theorem mks {T E' sz bytes m : Nat} {z : Value} {zl : List Value} {x y : Operand} (hK : K e w G L) (hT : P.underlying T = some (.slice E')) (hi : Inf P E' z sz bytes) (hz : z.cells = zl.toArray) (hl : zl.length = sz) (hsz : Nat.ble 1 sz = true)
    (hx : ev n f x = .int .i64 (m : Int)) (hy : ev n f y = .int .i64 (m : Int)) (hm : m ≤ 100000000) (hby : Nat.ble bytes 1000 = true)
    (h : ∀ b w1, OS sz E' (.slice (some ⟨b, 0, none⟩) m m) m (List.replicate m zl).flatten [(b, row (List.replicate m zl).flatten E')] → K e w1 G ((b, row (List.replicate m zl).flatten E') :: L) →
      WL P n ops Q rest (upd f d (.slice (some ⟨b, 0, none⟩) m m)) w1) :
    WL P n ops Q (⟨some d, .makeSlice T x y, ty, pos, af, none⟩ :: rest) f w := by
  obtain ⟨i, g1, g2, g3, g4⟩ := hi.get
  have hb1 : bytes ≤ 1000 := Nat.le_of_ble_eq_true hby
  have hs1 : 1 ≤ sz := Nat.le_of_ble_eq_true hsz
  have hlen : (List.replicate m zl).flatten.length = m * sz := by rw [List.length_flatten, List.map_replicate, List.sum_replicate_nat, hl]
  have hrow : row (List.replicate m zl).flatten E' = Obj.cells ((Array.range (m * sz)).map fun k => z.cells[k % z.cells.size]!) E' (0, 0) := by
    unfold row
    congr 1
    apply Array.ext
    · simp [hlen]
    · intro j h1 h2
      have hj : j < m * sz := by simpa using h2
      have hg := flat_get zl m (by omega) j (by rw [hl]; exact hj)
      have hmod : j % zl.length < zl.length := Nat.mod_lt _ (by omega)
      have h3 : (List.replicate m zl).flatten[j]'(by rw [hlen]; exact hj) = zl[j % zl.length] := by
        have e1 : (List.replicate m zl).flatten[j]? = some (List.replicate m zl).flatten[j] := List.getElem?_eq_getElem (by rw [hlen]; exact hj)
        rw [e1, List.getElem?_eq_getElem hmod] at hg
        exact Option.some.inj hg
      simp only [List.getElem_toArray, Array.getElem_map, Array.getElem_range, hz, List.size_toArray]
      rw [h3]
      simp [hmod]
  refine vl ?_ (h w.heap.size (w.alloc (row (List.replicate m zl).flatten E')) (OS.lit hlen (by omega)) (hK.alloc _))
  have hbm := Nat.mul_le_mul hb1 hm
  have hbm' : bytes * m ≤ 100000000000 := hbm
  have h1 : IntKind.i64.wrap (m : Int) = (m : Int) := wrap64_in (show (-9223372036854775808 : Int) ≤ _ by omega) (show _ ≤ (9223372036854775807 : Int) by omega)
  have hbmi : ((bytes : Int) * (m : Int)) ≤ 100000000000 := by rw [← Int.natCast_mul]; omega
  have ht : ¬ ((m : Int) < 0 ∨ (281474976710656 : Int) < (bytes : Int) * (m : Int)) := by omega
  have hroom : ¬ (m * bytes > roomBytes) := by
    rw [Nat.mul_comm]
    show ¬ (bytes * m > 140737488355328)
    omega
  unfold St execOp
  have hnz : (m * sz = 0) ∨ ¬ (m * sz = 0) := by omega
  have hzv : (zeroValue E').run P w = .ok z w := by simp [zeroValue, typeInfo, g1, g2]
  rw [hrow]
  have hmi : ¬ (m : Int) < 0 := by omega
  have hti : ¬ (281474976710656 : Int) < (bytes : Int) * (m : Int) := by omega
  rcases hnz with h0 | h0
  · have hm0 : m = 0 := by
      rcases Nat.mul_eq_zero.1 h0 with h | h
      · exact h
      · omega
    subst hm0
    simp [hx, hy, Instr.makeSlice, run_underlying hT, asInt, asIntOf, typeInfo, g1, sizeOf, newRow, askRoom, roomBytes, IntKind.wrap_i64]
    have hq : ∀ q : Nat → Value, (Array.range 0).map q = #[] := fun q => Array.eq_empty_of_size_eq_zero (by simp)
    rw [hq, hq]
  · simp only [hx, hy, Instr.makeSlice, Sem.run_bind, run_underlying hT, Result.andThen_ok, asInt, asIntOf, Sem.run_pure, typeInfo, run_program, g1, g4, h1]
    simp [hmi, hti, askRoom, hroom, sizeOf, typeInfo, g1, g3, h0, hzv, newRow]
theorem soi {T b o t : Nat} {x y : Operand} {l : List Value} {v : Value} {sz by' : Nat} {z : Value} (hK : K e w G L) (hi : Inf P T z sz by') (hs : Nat.beq sz 1 = true) (k : Nat) (hn : L[k]? = some (b, row l t))
    (hp : ev n f x = .pointer (some ⟨b, o, none⟩)) (hv : ev n f y = v) (h1 : one v = true) (ho : o < l.length) {dst : Option Tmp}
    (h : ∀ w1, K e w1 G (L.set k (b, row (l.set o v) t)) → WL P n ops Q rest (updO f dst undef) w1) :
    WL P n ops Q (⟨dst, .store T x y, ty, pos, af, none⟩ :: rest) f w :=
  so hK hi hs k hn hp hv h1 (Nat.ble_eq_true_of_le ho) h
theorem soSi {T b o t : Nat} {x y : Operand} {l vs : List Value} {sz by' : Nat} {z : Value} (hK : K e w G L) (hi : Inf P T z sz by') (k : Nat) (hn : L[k]? = some (b, row l t))
    (hp : ev n f x = .pointer (some ⟨b, o, none⟩)) (hv : ev n f y = .agg vs.toArray) (hl : vs.length = sz) (h1' : vs.all one = true) (ho : o + vs.length ≤ l.length) {dst : Option Tmp}
    (h : ∀ w1, K e w1 G (L.set k (b, row (l.take o ++ vs ++ l.drop (o + vs.length)) t)) → WL P n ops Q rest (updO f dst undef) w1) :
    WL P n ops Q (⟨dst, .store T x y, ty, pos, af, none⟩ :: rest) f w :=
  soS hK hi k hn hp hv hl h1' (Nat.ble_eq_true_of_le ho) h
end
def ints (xs : List Int) : List Value := xs.map (.int .i64)
@[simp] theorem ints_len (xs : List Int) : (ints xs).length = xs.length := by simp [ints]
theorem K.pubI {e w : World} {G : View} {L : Own} {b t c : Nat} {xs : List Int} (hK : K e w G ((b, row (ints xs) t) :: L)) (h1 : xs.length ≤ c) (h2 : c ≤ 1000000000) :
    ∃ G', VLe G G' ∧ IntS G' (.slice (some ⟨b, 0, none⟩) xs.length c) xs ∧ K e w G' L := by
  refine ⟨addV G [(b, row (ints xs) t)], K.addV_le (A := [(b, row (ints xs) t)]) hK, ?_, K.pub (A := [(b, row (ints xs) t)]) hK⟩
  refine ⟨⟨_, c, rfl, h1, by unfold maxLen; omega, .inr ⟨_, _, rfl⟩⟩, fun i x hx => ⟨[.int .i64 x], rfl, fun j u hj => ?_, rfl⟩⟩
  have hj0 : j = 0 := by have := (List.getElem?_eq_some_iff.1 hj).1; simp at this; exact this
  subst hj0
  simp at hj; subst hj
  have hg : addV G [(b, row (ints xs) t)] b = some (row (ints xs) t) := addV_mem (by simp) (List.mem_cons_self ..)
  unfold cellV
  simp only [elA, hg, Nat.zero_add, Nat.mul_one, Nat.add_zero]
  simp [row, ints, hx]
theorem K.pubO {e w : World} {G : View} {L A : Own} {t : Nat} {v : Value} {xs : List Int} (hK : K e w G (A ++ L)) (ho : OS 1 t v xs.length (ints xs) A) :
    ∃ G', VLe G G' ∧ IntS G' v xs ∧ K e w G' L := by
  refine ⟨addV G A, hK.addV_le, ?_, hK.pub⟩
  refine OS.pub ho ho.nodup fun i x hx => ⟨[.int .i64 x], rfl, fun j u hj => ?_, rfl⟩
  have hj0 : j = 0 := by have := (List.getElem?_eq_some_iff.1 hj).1; simp at this; exact this
  subst hj0
  simp at hj; subst hj
  simp [ints, hx]
open Go
def ups : List (Int × Int) → Int → Int → List (Int × Int)
  | [], k, v => [(k, v)]
  | (a, b) :: l, k, v => if a = k then (k, v) :: l else (a, b) :: ups l k v
def lkI : List (Int × Int) → Int → Option Int
  | [], _ => none
  | (a, b) :: l, k => if a = k then some b else lkI l k
theorem lkI_ups (l : List (Int × Int)) (k v j : Int) : lkI (ups l k v) j = if j = k then some v else lkI l j := by
  induction l with
  | nil => simp only [ups, lkI]; by_cases h : k = j <;> simp [h]; intro h'; exact absurd h'.symm h
  | cons p l ih =>
    obtain ⟨a, b⟩ := p
    unfold ups
    by_cases h : a = k
    · subst h
      rw [if_pos rfl]
      simp only [lkI]
      by_cases h' : a = j
      · subst h'; simp
      · rw [if_neg h', if_neg h', if_neg (fun e => h' e.symm)]
    · rw [if_neg h]
      simp only [lkI]
      by_cases h' : a = j
      · subst h'; simp [h]
      · rw [if_neg h', if_neg h', ih]
def enE (p : Int × Int) : Value × Value := (.int .i64 p.1, .int .i64 p.2)
def MI (o : Obj) (l : List (Int × Int)) : Prop := ∃ es c, o = .map es c ∧ es.toList.map (fun e => (e.key, e.val)) = l.map enE
theorem MI.nil : MI (.map #[] 0) [] := ⟨_, _, rfl, rfl⟩
section
variable {P : Program} {n : Nat} {Q : Po} {f : Sl} {w : World} {ops : Array Oper} {rest : List Oper}
  {d : Nat} {dst : Option Tmp} {ty : TypeId} {pos : String} {af : Array Edge} {g : Option (Nat × Bool)} {e : World} {G : View} {L : Own}
end
end Go.Ro
