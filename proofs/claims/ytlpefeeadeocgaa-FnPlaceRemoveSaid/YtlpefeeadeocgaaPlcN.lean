/- Tables of tokens in memory, and what the specification and the program compute of them. Conditions: those that each row states. -/
import Derived.Test.YtlpefeeadeocgaaPlcM
import Derived.Test.YtlpefeeadeocgaaMpJ
import Derived.Test.YtlpefeeadeocgaaLs
import Derived.Test.YtlpefeeadeocgaaWdM
import Derived.Test.YtlpefeeadeocgaaPsM
namespace Go.Ro
open Go

def tc (x : Int × Int) : List Value := [.int .i64 x.1, .int .i64 x.2]
abbrev TokS := SlR 2 (EF tc)
theorem TokS.mono {G G' : View} {v : Value} {ts : List (Int × Int)} (h : TokS G v ts) (hG : VLe G G') : TokS G' v ts := EF.mono h hG
/-- what both tables are -/
def WtOk (ws : List Int) : Prop := ∀ x ∈ ws, 1 ≤ x ∧ x ≤ 5
noncomputable def PT (ns ws : List Int) : List (Int × Int) := if dec (NdsOk ns ∧ ws.length = ns.length ∧ WtOk ws) = true then tbl (ns.zip ws) else []
theorem PT.ok {ns ws : List Int} (h : NdsOk ns ∧ ws.length = ns.length ∧ WtOk ws) : PT ns ws = tbl (ns.zip ws) := by unfold PT; rw [dec_t h]; rfl
theorem PT.no {ns ws : List Int} (h : ¬ (NdsOk ns ∧ ws.length = ns.length ∧ WtOk ws)) : PT ns ws = [] := by unfold PT; rw [dec_f h]; rfl

def toks (n wt : Int) : List Int := (List.range wt.toNat).map fun (i : Nat) => tkn n (i : Int)
noncomputable def tkO (n wt : Int) : List Int := if dec (Pt n ∧ 1 ≤ wt ∧ wt ≤ 5) = true then toks n wt else []
theorem toks_succ (n : Int) (i : Nat) : toks n (i : Int) ++ [tkn n i] = toks n ((i : Int) + 1) := by
  unfold toks
  rw [show ((i : Int) + 1).toNat = i + 1 by omega, List.range_succ, List.map_append, Int.toNat_natCast]; rfl
theorem toks_mem {n wt p : Int} : p ∈ toks n wt ↔ hasT (n, wt) p = true := by
  rw [hasT_iff]
  unfold toks
  rw [List.mem_map]
  constructor
  · rintro ⟨i, hi, h⟩; exact ⟨i, by have := List.mem_range.1 hi; simp only; omega, h⟩
  · rintro ⟨i, hi, h⟩; exact ⟨i, List.mem_range.2 (by simp only at hi; omega), h⟩
theorem toks_len (n wt : Int) : (toks n wt).length = wt.toNat := by simp [toks]

theorem sq7 {i : Int} (h0 : 0 ≤ i) (h1 : i ≤ 10) : 0 ≤ 7 * i * i ∧ 7 * i * i ≤ 700 := by
  have h := mul_lt2 (a := 7 * i) (b := i) (A := 71) (B := 11) (by omega) (by omega) h0 (by omega)
  have h2 : 7 * i * i ≤ 70 * i := Int.mul_le_mul_of_nonneg_right (by omega) h0
  omega

/-! owners -/
def TblOk (ts : List (Int × Int)) : Prop := (∀ x ∈ ts, Pt x.1 ∧ Pt x.2) ∧ ts.Pairwise (fun a b => a.1 < b.1) ∧ ts ≠ []
theorem PT.tblOk {ns ws : List Int} (h : PT ns ws ≠ []) : TblOk (PT ns ws) ∧ NdsOk ns ∧ ws.length = ns.length ∧ WtOk ws := by
  by_cases hh : NdsOk ns ∧ ws.length = ns.length ∧ WtOk ws
  · refine ⟨⟨?_, ?_, h⟩, hh⟩
    · rw [PT.ok hh]
      intro x hx
      have h1 := tbl_mem.1 hx
      have h0 := ps64_mem.1 h1.1
      refine ⟨⟨h0.1, by omega⟩, ?_⟩
      have h2 := ownT_mem h1.2
      have h3 : x.2 ∈ ns := by
        obtain ⟨y, hy, he⟩ := List.mem_map.1 h2
        have := (List.of_mem_zip hy).1
        rw [← he]; exact this
      exact hh.1.2.1 _ h3
    · rw [PT.ok hh]
      have := tbl_asc (ownT (ns.zip ws))
      rw [List.pairwise_map] at this
      exact this
  · exact absurd (PT.no hh) h
theorem ownI_at {ts : List (Int × Int)} {key i : Int} (hne : 0 < ts.length) (h : IdxOf (fun x : Int × Int => decide (key ≤ x.1)) ts i) : ∃ hi : (max i 0).toNat < ts.length, ownI ts key = (ts[(max i 0).toNat]'hi).2 ∧ 0 ≤ max i 0 := by
  rcases h with ⟨rfl, h⟩ | ⟨j, rfl, hj, h, hb⟩
  · refine ⟨hne, ?_, by omega⟩
    unfold ownI
    have : ts.find? (fun x => decide (key ≤ x.1)) = none := by rw [List.find?_eq_none]; exact fun x hx => by have h1 := h x hx; simp only at h1; rw [h1]; simp
    rw [this]
    cases ts with
    | nil => simp at hne
    | cons x t => rfl
  · have he : (max (j : Int) 0).toNat = j := by omega
    refine ⟨by rw [he]; exact hj, ?_, by omega⟩
    unfold ownI
    have : ts.find? (fun x => decide (key ≤ x.1)) = some ts[j] := by
      rw [List.find?_eq_some_iff_append]
      refine ⟨h, ts.take j, ts.drop (j + 1), ?_, fun x hx => by have h1 := hb x hx; simp only at h1; rw [h1]; rfl⟩
      rw [← List.drop_eq_getElem_cons hj, List.take_append_drop]
    rw [this]
    simp
def psTo (i : Nat) : List Int := (List.range i).map fun (j : Nat) => (j : Int)
theorem psTo_succ (i : Nat) : psTo (i + 1) = psTo i ++ [(i : Int)] := by unfold psTo; rw [List.range_succ, List.map_append]; rfl
theorem psTo_all : psTo 64 = ps64 := rfl
theorem psTo_len (i : Nat) : (psTo i).length = i := by simp [psTo]
theorem psf_t {q : Int → Bool} {i : Nat} (h : q (i : Int) = true) : (psTo (i + 1)).filter q = (psTo i).filter q ++ [(i : Int)] := by
  rw [psTo_succ, List.filter_append, List.filter_cons, h]; rfl
theorem psf_f {q : Int → Bool} {i : Nat} (h : q (i : Int) = false) : (psTo (i + 1)).filter q = (psTo i).filter q := by
  rw [psTo_succ, List.filter_append, List.filter_cons, h]; simp
theorem psf_len (q : Int → Bool) (i : Nat) : ((psTo i).filter q).length ≤ i := by
  have := List.length_filter_le q (psTo i)
  rw [psTo_len] at this; exact this
theorem TblOk.pos {ts : List (Int × Int)} (h : TblOk ts) : 0 < ts.length := List.length_pos_iff.2 h.2.2
theorem TblOk.pt {ts : List (Int × Int)} (h : TblOk ts) {i : Nat} (hi : i < ts.length) : Pt ts[i].1 ∧ Pt ts[i].2 := h.1 _ (List.getElem_mem hi)
theorem TblOk.lt {ts : List (Int × Int)} (h : TblOk ts) {i j : Nat} (hj : j < ts.length) (hij : i < j) : ts[i].1 < ts[j].1 := List.pairwise_iff_getElem.1 h.2.1 i j (by omega) hj hij

/-! the specification's loops -/
theorem osTake {sz t m : Nat} {v : Value} {cs : List Value} {A : Own} (h : OS sz t v m cs A) {k : Nat} (hk : k ≤ m) : OS sz t (Ro.slc v 0 k sz) k (cs.take (k * sz)) A := by
  obtain ⟨h1, h⟩ := h
  have hks : k * sz ≤ m * sz := Nat.mul_le_mul_right _ hk
  refine ⟨by rw [List.length_take, h1]; omega, ?_⟩
  rcases h with ⟨rfl, rfl, rfl⟩ | ⟨b, cap, cur, rfl, rfl, h2, h3, h4, h5⟩
  · obtain rfl : k = 0 := by omega
    exact .inl ⟨rfl, rfl, rfl⟩
  · refine .inr ⟨b, cap, cur, ?_, rfl, by omega, h3, h4, ?_⟩
    · have hadd : (⟨b, 0, none⟩ : Addr).add 0 = ⟨b, 0, none⟩ := by
        unfold Addr.add
        split
        · rename_i h; rw [h]
        · rfl
      unfold Ro.slc
      simp [hadd]
    · rw [← h5, List.take_take, Nat.min_eq_left hks]
def oL (p : Int) : Option Int → List (Int × Int)
  | some m => [(p, m)]
  | none => []
def outP (nw : List (Int × Int)) (p : Nat) (o : Option Int) : List (Int × Int) := tblL (psTo p) (ownT nw) ++ oL p o
def hit (n : Int) (k : Nat) (p : Int) : Bool := (List.range k).any fun i => tkn n i == p
def curK (n : Int) (k : Nat) (r : Option Int) (p : Int) : Option Int := if hit n k p = true then some n else r
theorem outP_succ (nw : List (Int × Int)) (p : Nat) : outP nw p (ownT nw p) = outP nw (p + 1) none := by
  unfold outP tblL
  rw [psTo_succ, List.filterMap_append]
  show _ = _ ++ []
  rw [List.append_nil]
  congr 1
  cases h : ownT nw p <;> simp [oL, h]
theorem outP_all (nw : List (Int × Int)) : outP nw 64 none = tbl nw := by
  unfold outP tbl
  rw [psTo_all]; exact List.append_nil _
theorem base_len (nw : List (Int × Int)) (p : Nat) : (tblL (psTo p) (ownT nw)).length ≤ p := by
  have := List.length_filterMap_le (fun p => (ownT nw p).map fun m => (p, m)) (psTo p)
  rw [psTo_len] at this; exact this
theorem outP_len (nw : List (Int × Int)) (p : Nat) (o : Option Int) : (outP nw p o).length ≤ p + 1 := by
  unfold outP
  have := base_len nw p
  rw [List.length_append]
  cases o <;> simp [oL] <;> omega
theorem base_lt {nw : List (Int × Int)} {p : Nat} {x : Int × Int} (h : x ∈ tblL (psTo p) (ownT nw)) : x.1 < p := by
  have := (tbl_mem.1 h).1
  unfold psTo at this
  obtain ⟨j, hj, he⟩ := List.mem_map.1 this
  have := List.mem_range.1 hj
  omega
theorem hit_succ (n : Int) (k : Nat) (p : Int) : hit n (k + 1) p = (hit n k p || tkn n k == p) := by unfold hit; rw [List.range_succ, List.any_append]; simp
theorem curK_hit {n p : Int} {k : Nat} (r : Option Int) (h : tkn n k = p) : curK n (k + 1) r p = some n := by unfold curK; rw [hit_succ]; simp [h]
theorem curK_miss {n p : Int} {k : Nat} (r : Option Int) (h : tkn n k ≠ p) : curK n (k + 1) r p = curK n k r p := by unfold curK; rw [hit_succ]; simp [h]
theorem curK_all {nw : List (Int × Int)} {r : Nat} {p : Int} (hr : r < nw.length) : curK nw[r].1 nw[r].2.toNat (ownT (nw.drop (r + 1)) p) p = ownT (nw.drop r) p := by
  rw [List.drop_eq_getElem_cons hr]
  unfold ownT curK
  rw [List.find?_cons]
  show (if hasT nw[r] p = true then _ else _) = _
  cases hasT nw[r] p <;> rfl
theorem MJ.nodup {o : Obj} {l : List (Int × Int)} (h : MJ o l) : (l.map (·.1)).Nodup := by
  obtain ⟨es, c, _, h2, h3⟩ := h
  have h4 := h3.2.2
  have h5 : es.toList.map (·.key) = (l.map (·.1)).map (Value.int .i64) := by
    have := congrArg (List.map Prod.fst) h2
    rw [List.map_map, List.map_map] at this
    rw [List.map_map]
    exact this
  rw [h5] at h4
  exact List.Pairwise.of_map _ (fun a b hne he => hne (by rw [he])) h4
theorem ks_lt {ks : List Int} (h : ks.Pairwise (· ≤ ·)) (hn : ks.Nodup) : ks.Pairwise (· < ·) :=
  (h.and hn).imp fun ⟨h1, h2⟩ => by omega
theorem ks_tbl {l nw : List (Int × Int)} {ks : List Int} (hp : ks.Perm (l.map (·.1))) (hs : ks.Pairwise (· ≤ ·)) (hn : (l.map (·.1)).Nodup) (hf : ∀ p, lkI l p = ownT nw p) :
    ks.map (fun p => (p, (lkI l p).getD 0)) = tbl nw := by
  have e : lkI l = ownT nw := funext hf
  rw [e]
  refine tbl_sorted (ks_lt hs (hp.nodup_iff.2 hn)) (fun p => ?_) fun p hp => ownT_rg hp
  rw [hp.mem_iff, ← lkI_mem, e]
theorem zip_take_succ {ns ws : List Int} {i : Nat} (h1 : i < ns.length) (h2 : i < ws.length) : (ns.zip ws).take (i + 1) = (ns.zip ws).take i ++ [(ns[i], ws[i])] := by
  have h3 : i < (ns.zip ws).length := by rw [List.length_zip]; omega
  rw [List.take_succ_eq_append_getElem h3, List.getElem_zip]
theorem outP_app (nw : List (Int × Int)) (p : Nat) (n : Int) : outP nw p none ++ [((p : Int), n)] = outP nw p (some n) := by
  unfold outP; simp [oL]
theorem outP_pre (nw : List (Int × Int)) (p : Nat) (m : Int) : (outP nw p (some m)).length - 1 = (outP nw p none).length := by
  rw [← outP_app, List.length_append, List.length_singleton]; omega
theorem tcell (ts : List (Int × Int)) {i : Nat} (h : i < ts.length) : (ts.flatMap tc)[i * 2 + 0]? = some (.int .i64 ts[i].1) := by
  rw [flat_get' (c := tc) (sz := 2) (fun _ => rfl) ts i 0 ts[i] (List.getElem?_eq_getElem h) (by omega)]; rfl
theorem lastS (nw : List (Int × Int)) (p : Nat) (m : Int) (h : (outP nw p (some m)).length - 1 < (outP nw p (some m)).length) : (outP nw p (some m))[(outP nw p (some m)).length - 1] = ((p : Int), m) := by
  have e := outP_pre nw p m
  have e2 := outP_app nw p m
  have : (outP nw p (some m))[(outP nw p (some m)).length - 1]? = some ((p : Int), m) := by
    rw [e, ← e2, List.getElem?_append_right (Nat.le_refl _), Nat.sub_self]; rfl
  rw [List.getElem?_eq_getElem h] at this
  exact Option.some.inj this
theorem lastN (nw : List (Int × Int)) (p : Nat) (h : (outP nw p none).length - 1 < (outP nw p none).length) : (outP nw p none)[(outP nw p none).length - 1].1 < p := by
  refine base_lt (nw := nw) ?_
  have e : outP nw p none = tblL (psTo p) (ownT nw) := List.append_nil _
  rw [← e]
  exact List.getElem_mem h
theorem osBase {nw : List (Int × Int)} {p t : Nat} {m : Int} {v : Value} {A : Own} (h : OS 2 t v (outP nw p (some m)).length ((outP nw p (some m)).flatMap tc) A) :
    OS 2 t (Ro.slc v 0 ((outP nw p (some m)).length - 1) 2) (outP nw p none).length ((outP nw p none).flatMap tc) A := by
  have h1 := osTake h (k := (outP nw p (some m)).length - 1) (by omega)
  have e := outP_pre nw p m
  have e2 : ((outP nw p (some m)).flatMap tc).take (((outP nw p (some m)).length - 1) * 2) = (outP nw p none).flatMap tc := by
    rw [e, ← outP_app, List.flatMap_append, ← flat_len (c := tc) (sz := 2) (fun _ => rfl) (outP nw p none), List.take_left']
    rfl
  rw [e2] at h1
  rw [show OS 2 t (Ro.slc v 0 ((outP nw p (some m)).length - 1) 2) (outP nw p none).length ((outP nw p none).flatMap tc) A = OS 2 t (Ro.slc v 0 ((outP nw p (some m)).length - 1) 2) ((outP nw p (some m)).length - 1) ((outP nw p none).flatMap tc) A by rw [e]]
  exact h1
theorem lkI_step {f : Int → Option Int} {l : List (Int × Int)} {xs : List Int} {j : Nat} {n : Int} (hj : j < xs.length) (hf : ∀ p, lkI l p = (f p).or (if p ∈ xs.take j then some n else none)) (hno : lkI l xs[j] = none) (p : Int) :
    lkI (l ++ [(xs[j], n)]) p = (f p).or (if p ∈ xs.take (j + 1) then some n else none) := by
  rw [lkI_snoc hno, List.take_succ_eq_append_getElem hj]
  by_cases h : p = xs[j]
  · subst h
    rw [if_pos rfl, if_pos (List.mem_append_right _ (List.mem_singleton_self _))]
    have := hf xs[j]
    rw [hno] at this
    cases hx : f xs[j] with
    | none => rfl
    | some y => rw [hx] at this; cases this
  · rw [if_neg h, hf p]
    by_cases h2 : p ∈ xs.take j
    · rw [if_pos h2, if_pos (List.mem_append_left _ h2)]
    · rw [if_neg h2, if_neg (fun h3 => (List.mem_append.1 h3).elim h2 fun h4 => h (List.mem_singleton.1 h4))]
theorem lkI_stay {f : Int → Option Int} {l : List (Int × Int)} {xs : List Int} {j : Nat} {n : Int} (hj : j < xs.length) (hf : ∀ p, lkI l p = (f p).or (if p ∈ xs.take j then some n else none)) (hs : (lkI l xs[j]).isSome = true) (p : Int) :
    lkI l p = (f p).or (if p ∈ xs.take (j + 1) then some n else none) := by
  rw [hf p, List.take_succ_eq_append_getElem hj]
  by_cases h2 : p ∈ xs.take j
  · rw [if_pos h2, if_pos (List.mem_append_left _ h2)]
  · rw [if_neg h2]
    by_cases h : p = xs[j]
    · subst h
      rw [hf xs[j], if_neg h2] at hs
      cases hx : f xs[j] with
      | none => rw [hx] at hs; cases hs
      | some y => rfl
    · rw [if_neg (fun h3 => (List.mem_append.1 h3).elim h2 fun h4 => h (List.mem_singleton.1 h4))]

/-! one node less -/
theorem asc_erase {ns : List Int} {k : Nat} (h : Asc ns) : Asc (ns.eraseIdx k) :=
  ⟨fun x hx => h.1 x (List.mem_of_mem_eraseIdx hx), h.2.sublist (List.eraseIdx_sublist ..)⟩
theorem nds_erase {ns : List Int} {k : Nat} (h : NdsOk ns) (hk : k < ns.length) (h2 : 2 ≤ ns.length) : NdsOk (ns.eraseIdx k) := by
  have hl := List.length_eraseIdx_of_lt hk
  have := h.1
  exact ⟨⟨by omega, by omega⟩, asc_erase h.2⟩
theorem wt_erase {ws : List Int} {k : Nat} (h : WtOk ws) : WtOk (ws.eraseIdx k) := fun x hx => h x (List.mem_of_mem_eraseIdx hx)
theorem zip_erase : ∀ (ns ws : List Int) (k : Nat), (ns.eraseIdx k).zip (ws.eraseIdx k) = (ns.zip ws).eraseIdx k
  | [], _, k => by simp
  | _ :: _, [], k => by simp
  | a :: ns, b :: ws, 0 => rfl
  | a :: ns, b :: ws, k + 1 => by
    simp only [List.eraseIdx_cons_succ, List.zip_cons_cons]
    rw [zip_erase ns ws k]
theorem zip_fst {ns ws : List Int} (h : ws.length = ns.length) : (ns.zip ws).map (·.1) = ns := by
  rw [List.map_fst_zip]; omega
theorem asc_nodup {ns : List Int} (h : Asc ns) : ns.Nodup := h.2.imp fun h => by simp only [id] at h; omega
/-- the plain law -/
theorem pt_remove {ns ws : List Int} {k : Nat} (ho : PT ns ws ≠ []) (h2 : 2 ≤ ns.length) (hk : k < ns.length) :
    TblOk (PT ns ws) ∧ TblOk (PT (ns.eraseIdx k) (ws.eraseIdx k)) ∧ Pt ns[k] ∧
    (∀ key, ownI (PT ns ws) key ≠ ownI (PT (ns.eraseIdx k) (ws.eraseIdx k)) key ↔ ownI (PT ns ws) key = ns[k]) := by
  obtain ⟨h1, hn, hl, hw⟩ := PT.tblOk ho
  have hok2 : NdsOk (ns.eraseIdx k) ∧ (ws.eraseIdx k).length = (ns.eraseIdx k).length ∧ WtOk (ws.eraseIdx k) :=
    ⟨nds_erase hn hk h2, by rw [List.length_eraseIdx_of_lt hk, List.length_eraseIdx_of_lt (by omega), hl], wt_erase hw⟩
  have hz : ((ns.zip ws).eraseIdx k) ≠ [] := by
    intro h
    have := congrArg List.length h
    rw [List.length_eraseIdx_of_lt (by rw [List.length_zip]; omega), List.length_zip] at this
    simp at this
    omega
  have hx : PT (ns.eraseIdx k) (ws.eraseIdx k) ≠ [] := by
    rw [PT.ok hok2, zip_erase]
    refine tbl_ne hz fun x hx => ?_
    have hm : x ∈ ns.zip ws := List.mem_of_mem_eraseIdx hx
    exact (hw _ (List.of_mem_zip hm).2).1
  refine ⟨h1, (PT.tblOk hx).1, hn.2.pt hk, fun key => ?_⟩
  rw [PT.ok ⟨hn, hl, hw⟩] at ho ⊢
  rw [PT.ok hok2, zip_erase] at hx ⊢
  have hkz : k < (ns.zip ws).length := by rw [List.length_zip]; omega
  have := tbl_remove hkz (by rw [zip_fst hl]; exact asc_nodup hn.2) ho hx key
  rw [List.getElem_zip] at this
  exact this
section
variable {P : Program} {n : Nat} {f : Sl} {w : World} {dst : Option Tmp} {ty : TypeId} {pos : String} {af : Array Edge} {g : Option (Nat × Bool)} {x y : Operand} {a b c : Int} {T T' : TypeId}
theorem rmk (hx : ev n f x = .int .i64 a) (hy : ev n f y = .int .i64 b) (h0 : 0 ≤ a) (h2 : 0 < b) (he : a % b = c) :
    St P n ⟨dst, .binOp .rem T x y T', ty, pos, af, g⟩ f w (.int .i64 c) w := he ▸ rm hx hy h0 h2
end
end Go.Ro
