/- Contracts of functions on strings: the library's, and what the program's console prints. Contracts of functions on strings: what the program's console prints; the names of events. Conditions: those that each row states. -/
import Derived.Test.YtbiihblpgfgaoabGreatDoorXd
import Derived.Test.YtbiihblpgfgaoabGreatDoorEvM
import Derived.Test.YtbiihblpgfgaoabGreatDoorPnc
import Derived.Test.YtbiihblpgfgaoabGreatDoorDf
import Derived.Test.YtbiihblpgfgaoabGreatDoorIn
namespace Go.Proofs.YtbiihblpgfgaoabGreatDoor
open Go Go.Ro Tryz
section
variable {e w : World} {G : View} {L A B : Own} {v u bv p : Value} {xs : List Int} {rs qs : List Rn} {W W' : Wv} {wd wd' : Wd} {k n : Int} {l out : List UInt8} {ws : List (List UInt8)} {cb : Nat}
theorem split_c {c : UInt8} (hl : l.length ≤ 1000000) (hK : K e w G L) : Ret prog 16 #[Sv l, Sv [c]] w (fun r w' => ∃ A, OS 1 9 r (ctL c l).length ((ctL c l).flatMap sc) A ∧ K e w' G (A ++ L)) := by
 have h1 := (ctA_len c l []).1
 have hlen : (ctL c l).length ≤ 1000001 := Nat.le_trans h1 (by omega)
 refine (Calls.mono (Go.Proofs.split1 Tryz.lays146 kr l c w (by omega)) ?_)
 rintro e w' ⟨rfl, rfl⟩
 refine ⟨_, rfl, [(w.heap.size, row ((ctL c l).flatMap sc) 9)], OS.lit (by rw [flat_len (c := sc) (sz := 1) (fun _ => rfl)]) (by omega), hK.alloc _⟩
def Tab (G : View) : Prop := ∃ o, G 1 = some o ∧ ∀ w : World, w.heap[1]? = some o → Lib.TabIs prog w "internal/strconv.uint64pow10" .u64 Lib.pow10Tab
theorem Tab.mono {G G' : View} (h : Tab G) (hG : VLe G G') : Tab G' := by obtain ⟨o, h1, h2⟩ := h; exact ⟨o, hG _ _ h1, h2⟩
theorem itoa_c (hT : Tab G) (h0 : -1000000 ≤ n) (h1 : n ≤ 1000000) (hK : K e w G L) : Ret prog 18 #[.int .i64 n] w (fun r w' => r = Sv (num n) ∧ K e w' G L) := by
 obtain ⟨o, ho, ht⟩ := hT
 refine Calls.mono (Tryz.strconv_Itoa n (by omega) (by omega) w (ht w (hK.view _ _ ho))) ?_
 rintro e w' ⟨rfl, k, os, rfl⟩
 exact ⟨_, rfl, rfl, hK.still (Lib.below_grow w.heap.size w (Nat.le_refl _) k os)⟩
theorem join_c (ho : OS 1 9 v ws.length (ws.flatMap sc) A) (hK : K e w G (A ++ L)) (hn : ws.length ≤ 1000000) (hl : (Lib.join ws [32]).length ≤ 1000000) :
  Ret prog 33 #[v, Sv [32]] w (fun r w' => r = Sv (Lib.join ws [32]) ∧ K e w' G (A ++ L)) := by
 have hcell : ∀ (j : Nat) (x : List UInt8), ws[j]? = some x → w.cell? (elA v j) = some (Sv x) := fun j x hj => ho.cell hK (by rw [sc_flat, hj]; rfl)
 have hmap : (ws.map fun x => (⟨x.toArray⟩ : ByteArray)).map (·.data.toList) = ws := by
  rw [List.map_map]
  have : ((fun b : ByteArray => b.data.toList) ∘ fun x : List UInt8 => (⟨x.toArray⟩ : ByteArray)) = id := by funext x; simp
  rw [this, List.map_id]
 rcases ho.2 with ⟨rfl, h0, rfl⟩ | ⟨b, cap, cur, rfl, rfl, p1, p2, p3, p4⟩
 ·have hw0 := List.eq_nil_of_length_eq_zero h0
  subst hw0
  refine Calls.mono (Go.Proofs.Any.strings_Join_none Tryz.lays156 Tryz.Builder_Extra_156 none 0 ⟨[32].toArray⟩ w) ?_
  rintro e w' ⟨rfl, rfl⟩
  exact ⟨_, rfl, rfl, hK⟩
 ·have hb := hK.own b _ (List.mem_append_left _ (List.mem_cons_self ..))
  have c := Tryz.strings_Join b 0 cap (ws.map fun x => (⟨x.toArray⟩ : ByteArray)) ⟨[32].toArray⟩ w
   (fun j x hj => by
    rw [List.getElem?_map] at hj
    cases hx : ws[j]? with
    | none => rw [hx] at hj; cases hj
    | some y => rw [hx] at hj; obtain rfl := Option.some.inj hj; exact hcell j y hx)
   (lt_of_heap hb) (by rw [List.length_map]; omega) (by rw [List.length_map]; exact p1)
   (by rw [hmap]; exact Nat.le_trans hl (by decide))
  rw [hmap, List.length_map] at c
  refine Calls.mono c ?_
  rintro e w' ⟨rfl, hbel⟩
  exact ⟨_, rfl, rfl, hK.still hbel⟩
def BuP (cb : Nat) (p : Value) : Prop := p = .pointer none ∨ p = .pointer (some ⟨cb, 7, none⟩)
def Bu (cb : Nat) (p bv : Value) (out : List UInt8) (B : Own) : Prop := BuP cb p ∧ OS 1 5 bv out.length (bys out) B
theorem BuP.one {cb : Nat} {p : Value} (h : BuP cb p) : Ro.one p = true := by rcases h with rfl | rfl <;> rfl
theorem noEsc (v : Value) (w : World) : (callFunc 88 #[v]).run prog w = .ok (.value v) w := by
 rw [run_callFunc_extern func88 kr kr kr (e := Extern.AbiNoEscape.same) kr]
 rw [Lib.run_noEscape]; rfl
theorem lies9 : liesAt prog prog.depth 44 (9 / prog.cellsOf 44) 7 42 1 = true := by kernel_rfl
theorem copyCheck_c (hp : BuP cb p) (hK : K e w G ((cb, row (wc W ++ [p, bv]) 44) :: L)) :
  Ret prog 56 #[.pointer (some ⟨cb, 7, none⟩)] w (fun r w' => r = .tuple #[] ∧ K e w' G ((cb, row (wc W ++ [.pointer (some ⟨cb, 7, none⟩), bv]) 44) :: L)) := by
 rcases hp with rfl | rfl
 ·refine enter0 (args := [.pointer (some ⟨cb, 7, none⟩)]) func56 rfl rfl rfl rfl ?_
  refine sq <| rg <| ?_
  refine vl mv <| vl (nc rfl) <| vl (fa underlying42 rfl Ty.z40 rfl) <| vl (ldO hK Ty.o40 0 rfl rfl rfl) <| vl (eqPn underlying40 rfl rfl) <| nl <| thn <| ?_
  refine cdB rfl (fun h1 => ?_) fun h1 => ?_
  ·skip
   refine rg <| ?_
   refine vl mv <| vl mv <| vl (toU underlying40 underlying119 Ty.z42 rfl (row_shape (hK.own _ _ (List.mem_cons_self ..))) (show 7 < 9 by decide)) <| vl (exS (fun w => noEsc _ w) rfl) <| vl (ofU underlying119 underlying40 Ty.z42 rfl (row_shape (hK.own _ _ (List.mem_cons_self ..))) lies9) <| vl (nc rfl) <| vl (fa underlying42 rfl Ty.z40 rfl) <| ?_
   refine so hK Ty.i40 rfl 0 rfl rfl rfl rfl rfl ?_
   intro w hK
   refine nl <| p0n <| ?_
   exact ⟨rfl, hK⟩
  ·exact absurd h1 (by decide)
 ·refine enter0 (args := [.pointer (some ⟨cb, 7, none⟩)]) func56 rfl rfl rfl rfl ?_
  refine sq <| rg <| ?_
  refine vl mv <| vl (nc rfl) <| vl (fa underlying42 rfl Ty.z40 rfl) <| vl (ldO hK Ty.o40 0 rfl rfl rfl) <| vl (eqPn underlying40 rfl rfl) <| nl <| thn <| ?_
  refine cdB rfl (fun h1 => ?_) fun h1 => ?_
  ·exact absurd h1 (by simp)
  ·skip
   refine sq <| rg <| ?_
   refine vl mv <| vl (nc rfl) <| vl (fa underlying42 rfl Ty.z40 rfl) <| vl (ldO hK Ty.o40 0 rfl rfl rfl) <| vl mv <| vl (nePs underlying40 Ty.z42 rfl rfl) <| nl <| thn <| ?_
   refine cdB rfl (fun h2 => ?_) fun h2 => ?_
   ·exact absurd h2 (by decide)
   ·refine sk <| p0n <| ?_
    exact ⟨rfl, hK⟩
theorem WriteString_c (hb : Bu cb p bv out B) (hK : K e w G ((cb, row (wc W ++ [p, bv]) 44) :: (B ++ L))) (h0 : l ≠ []) (ho : out.length ≤ 10000000) (hl : l.length ≤ 10000000) :
  Ret prog 32 #[.pointer (some ⟨cb, 7, none⟩), Sv l] w (fun r w' => (∃ m, r = .tuple #[.int .i64 m, .nilIface]) ∧ ∃ bv' B', Bu cb (.pointer (some ⟨cb, 7, none⟩)) bv' (out ++ l) B' ∧ K e w' G ((cb, row (wc W ++ [.pointer (some ⟨cb, 7, none⟩), bv']) 44) :: (B' ++ L))) := by
 have hbo := hb.2
 refine enter2 (args := [.pointer (some ⟨cb, 7, none⟩), Sv l]) func32 rfl rfl rfl rfl ?_
 refine sq <| rg <| ?_
 refine vl (aI rfl) <| vl asg <| nl <| thn <| sq <| rg <| vl mv <| ?_
 refine cl call56 rfl (copyCheck_c hb.1 hK) ?_
 rintro _ w ⟨rfl, hK⟩
 refine nl <| thn <| sq <| rg <| vl mv <| vl mv <| vl (nc rfl) <| vl (fa underlying42 rfl Ty.z22 rfl) <| vl (ldO hK Ty.o22 0 rfl rfl rfl) <| vl mv <| ?_
 refine apS (K.mid1 hK) underlying22 underlying9 Ty.i5 rfl hbo rfl h0 om fun bv' B' w ho' hK => ?_
 rw [← bys_app, show out.length + l.length = (out ++ l).length from (List.length_append ..).symm] at ho'
 replace hK := K.back1 hK
 refine vl (nc rfl) <| vl (fa underlying42 rfl Ty.z22 rfl) <| ?_
 refine so hK Ty.i22 rfl 0 rfl rfl rfl ho'.one rfl ?_
 intro w hK
 refine nl <| thn <| sq <| rg <| vl mv <| vl (sln underlying9 rfl) <| vl (aI rfl) <| vl asg <| nl <| thn <| rt <| p2r (a := .int _ _) (b := _) rfl rfl <| ?_
 exact ⟨⟨_, rfl⟩, bv', B', ⟨.inr rfl, ho'⟩, hK⟩
theorem String_c (hb : Bu cb p bv out B) (hK : K e w G ((cb, row (wc W ++ [p, bv]) 44) :: (B ++ L))) (h0 : out ≠ []) (ho : out.length ≤ 10000000) :
  Ret prog 20 #[.pointer (some ⟨cb, 7, none⟩)] w (fun r w' => r = Sv out ∧ K e w' G ((cb, row (wc W ++ [p, bv]) 44) :: L)) := by
 have hbo := hb.2
 have hpos : 0 < out.length := List.length_pos_iff.2 h0
 obtain ⟨b, cap, rfl, hcap⟩ : ∃ b cap, bv = .slice (some ⟨b, 0, none⟩) out.length cap ∧ cap ≠ 0 := by
  rcases hbo.2 with ⟨_, h, _⟩ | ⟨b, cap, cur, rfl, _, p1, _⟩
  ·omega
  ·exact ⟨b, cap, rfl, by omega⟩
 refine enter1 (args := [.pointer (some ⟨cb, 7, none⟩)]) func20 rfl rfl rfl rfl ?_
 refine sq <| rg <| ?_
 refine vl asg <| nl <| thn <| sq <| ?_
 refine rgs (fun w => K e w G ((cb, row (wc W ++ [p, .slice (some ⟨b, 0, none⟩) out.length cap]) 44) :: L)) (fun w => K _ w _ _) [U,U,U,U,U,U,U,U,U,U,U,U] 12 Ty.mixed rfl rfl (hK.drawn _) ?_
 intro w hK
 have hS : (fun w => K e w G ((cb, row (wc W ++ [p, .slice (some ⟨b, 0, none⟩) out.length cap]) 44) :: L)) w := K.sl hK
 refine xt (i := 0) rfl kr rfl rfl (fun w hK => mv) hS <| xt (i := 1) rfl kr rfl rfl (fun w hK => (nc rfl)) hS <| xt (i := 2) rfl kr rfl rfl (fun w hK => (fa underlying42 rfl Ty.z22 rfl)) hS <| xt (i := 3) rfl kr rfl rfl (fun w hK => (ldO hK Ty.o22 0 rfl rfl rfl)) hS <| xt (i := 5) rfl kr rfl rfl (fun w hK => mv) hS <| xt (i := 6) rfl kr rfl rfl (fun w hK => (nc rfl)) hS <| xt (i := 7) rfl kr rfl rfl (fun w hK => (fa underlying42 rfl Ty.z22 rfl)) hS <| xt (i := 8) rfl kr rfl rfl (fun w hK => (ldO hK Ty.o22 0 rfl rfl rfl)) hS <| xt (i := 9) rfl kr rfl rfl (fun w hK => (ln underlying22 rfl hbo.len)) hS <| ?_
 refine xe (i := 4) kr rfl rfl ?_
 refine vl (usd rfl hcap) <| ?_
 refine xnk (K.sl hK) fun hS => ?_
 refine xe (i := 10) kr rfl rfl ?_
 refine usS underlying72 kr (K.mid1 hK) hbo h0 om rfl rfl fun w hK => ?_
 refine xnk (K.sl hK) fun hS => ?_
 refine xt (i := 11) rfl kr rfl rfl (fun w hK => asg) hS <| xd kr <| thn <| rt <| p1r (a := _) rfl <| ?_
 exact ⟨rfl, hK⟩
end
open Go Go.Ro Tryz
section
variable {e w : World} {G : View} {L A B : Own} {v u bv p : Value} {xs : List Int} {rs qs : List Rn} {W W' : Wv} {wd wd' : Wd} {k n : Int} {l out : List UInt8} {ws : List (List UInt8)} {cb : Nat}
def hdP (wd : List UInt8) : List (List UInt8) := if wd = [] then [] else [wd]
def prT (wd : List UInt8) (xs : List Int) : List UInt8 := Lib.join (hdP wd ++ xs.map num) [32] ++ [10]
theorem join_le {k : Nat} : ∀ {ls : List (List UInt8)}, (∀ x ∈ ls, x.length ≤ k) → (Lib.join ls [32]).length ≤ (k + 1) * ls.length
 | [], _ => by simp [Lib.join_nil]
 | x :: r, h => by
  rw [Lib.join_cons, List.length_append]
  have h1 := h x (List.mem_cons_self ..)
  have h2 : ∀ r : List (List UInt8), (∀ x ∈ r, x.length ≤ k) → (Lib.joinTail [32] r).length ≤ (k + 1) * r.length := by
   intro r
   induction r with
   | nil => intro _; simp [Lib.joinTail]
   | cons y r ih =>
    intro hr
    have g1 := hr y (List.mem_cons_self ..)
    have g2 := ih (fun z hz => hr z (List.mem_cons_of_mem _ hz))
    unfold Lib.joinTail at g2 ⊢
    rw [List.map_cons, List.flatten_cons, List.length_append, List.length_append]
    simp only [List.length_cons, List.length_nil, Nat.mul_add, Nat.mul_one]; omega
  have h3 := h2 r (fun z hz => h z (List.mem_cons_of_mem _ hz))
  rw [List.length_cons, Nat.mul_succ]; omega
theorem hdP_len {wd : List UInt8} : (hdP wd).length ≤ 1 := by unfold hdP; split <;> simp
theorem prJ_le {wd : List UInt8} {xs : List Int} (hw : wd.length ≤ 2000) (hx : ∀ x ∈ xs, -1000000 ≤ x ∧ x ≤ 1000000) (hn : xs.length ≤ 100) : (Lib.join (hdP wd ++ xs.map num) [32]).length ≤ 300000 := by
 have h := join_le (k := 2000) (ls := hdP wd ++ xs.map num) (fun x hm => by
  rcases List.mem_append.1 hm with hm | hm
  ·unfold hdP at hm
   split at hm
   ·simp at hm
   ·rw [List.mem_singleton.1 hm]; exact hw
  ·obtain ⟨y, hy, rfl⟩ := List.mem_map.1 hm
   have := num_len (hx y hy).1 (hx y hy).2; omega)
 have h1 := hdP_len (wd := wd)
 rw [List.length_append, List.length_map] at h
 have : (2000 + 1) * ((hdP wd).length + xs.length) ≤ 2001 * 101 := Nat.mul_le_mul_left _ (by omega)
 omega
set_option maxHeartbeats 1000000 in
theorem print_c {wd : List UInt8} (hT : Tab G) (hb : Bu cb p bv out B) (hK : K e w G ((cb, row (wc W ++ [p, bv]) 44) :: (B ++ L))) (hv : IntS G v xs) (hx : ∀ x ∈ xs, -1000000 ≤ x ∧ x ≤ 1000000) (hn : xs.length ≤ 100) (hw : wd.length ≤ 2000) (ho : out.length ≤ 1000000) :
  Ret prog 19 #[.pointer (some ⟨cb, 0, none⟩), Sv wd, v] w (fun r w' => r = .tuple #[] ∧ ∃ p' bv' B', Bu cb p' bv' (out ++ prT wd xs) B' ∧ K e w' G ((cb, row (wc W ++ [p', bv']) 44) :: (B' ++ L))) := by
 have hjl := prJ_le hw hx hn
 refine enter0 (args := [.pointer (some ⟨cb, 0, none⟩), Sv wd, v]) func19 rfl rfl rfl rfl ?_
 refine sq <| rg <| ?_
 refine vl mv <| vl (ln underlying35 rfl hv.len) <| vl (ad rfl rfl) <| ?_
 refine mkc (m := xs.length + 1) hK underlying47 Ty.i9 rfl rfl rfl rfl rfl om om rfl fun b12 w hop hK => ?_
 refine vl asg <| nl <| thn <| sq <| sq <| rg <| vl mv <| vl (seqN rfl rfl) <| nl <| thn <| ?_
 refine ct (σ := Value × Own) (fun s => [(0, .pointer (some ⟨cb, 0, none⟩)), (2, v), (6, s.1)]) (fun s w => OS 1 9 s.1 (hdP wd).length ((hdP wd).flatMap sc) s.2 ∧ K e w G (s.2 ++ ((cb, row (wc W ++ [p, bv]) 44) :: (B ++ L)))) ?_ ?_
 ·refine cdP rfl (fun h0 => ?_) fun h0 => ?_
  ·have h0' : wd ≠ [] := h0
   have hh : hdP wd = [] ++ [wd] := if_neg h0'
   refine rg <| ?_
   refine vl mv <| vl mv <| ?_
   refine bsN [.tmp 16] hK underlying47 Ty.i9 rfl rfl rfl rfl rfl rfl rfl rfl ?_
   intro b17 w hK
   refine apE1 (c := sc) (xs := []) (A := [(b12, _)]) (k := wd) (fun _ => rfl) rfl hK underlying47 Ty.i9 rfl rfl rfl hop rfl (by decide) fun v' A' w ho hK => ?_
   refine vl asg <| nl <| ctn <| ?_
   exact ⟨(v', A'), ⟨rfl, rfl, rfl, trivial⟩, ⟨by simp only [hh]; exact ho, hK⟩⟩
  ·have hh : hdP wd = [] := if_pos (Classical.not_not.1 h0)
   refine sk <| ctn <| ?_
   exact ⟨(_, [(b12, _)]), ⟨rfl, rfl, rfl, trivial⟩, ⟨by simp only [hh]; exact hop, hK⟩⟩
 ·clear hK hop
  rintro ⟨u, A⟩ g w ⟨hop, hK⟩
  simp only at hop hK
  refine thn <| sq <| sq <| rg <| ?_
  refine vl mv <| vl (ln underlying35 rfl hv.len) <| vl (mI rfl) <| nl <| thn <| bk <| ?_
  refine lp (σ := Nat × Value × Own) (fun s => [(0, .pointer (some ⟨cb, 0, none⟩)), (6, s.2.1), (19, v), (20, .int .i64 (xs.length : Int)), (21, .int .i64 (s.1 : Int))]) (fun s w => s.1 ≤ xs.length ∧ OS 1 9 s.2.1 (hdP wd ++ (xs.take s.1).map num).length ((hdP wd ++ (xs.take s.1).map num).flatMap sc) s.2.2 ∧ K e w G (s.2.2 ++ ((cb, row (wc W ++ [p, bv]) 44) :: (B ++ L)))) (fun s => xs.length - s.1) (0, u, A) ⟨rfl, rfl, rfl, rfl, rfl, trivial⟩ ⟨Nat.zero_le _, by simpa using hop, hK⟩ ?_
  clear hK hop
  rintro ⟨i, u, A⟩ g w ⟨hi, hop, hK⟩
  simp only at hi hop hK
  refine sq <| rg <| ?_
  refine vl (lt rfl rfl) <| nl <| thn <| sq <| ?_
  refine cdP rfl (fun hc => ?_) fun hc => ?_
  ·have hi' : i < xs.length := by simp only at hc; omega
   have hxi := hx _ (List.getElem_mem hi')
   have hpl := hdP_len (wd := wd)
   have hml : (hdP wd ++ (xs.take i).map num).length ≤ 101 := by rw [List.length_append, List.length_map, List.length_take]; omega
   have hst : hdP wd ++ (xs.take i).map num ++ [num xs[i]] = hdP wd ++ (xs.take (i + 1)).map num := by rw [List.take_succ_eq_append_getElem hi', List.map_append, List.append_assoc]; rfl
   refine sk <| thn <| sq <| bk <| sq <| rg <| ?_
   refine vl (ixm1 (m := i) underlying35 Ty.s3 rfl hv.1 rfl om om) <| vl (ldV hK Ty.o3 rfl (hv.at om)) <| vl (aI rfl) <| nl <| thn <| rg <| vl mv <| vl (mI rfl) <| ?_
   refine cl call18 rfl (itoa_c hT hxi.1 hxi.2 hK) ?_
   rintro _ w ⟨rfl, hK⟩
   refine bsN [.tmp 27] hK underlying47 Ty.i9 rfl rfl rfl rfl rfl rfl rfl rfl ?_
   intro b28 w hK
   refine apE1 (c := sc) (k := num xs[i]) (fun _ => rfl) rfl hK underlying47 Ty.i9 rfl rfl rfl hop rfl om fun v' A' w ho hK => ?_
   rw [hst] at ho
   refine vl asg <| nl <| bkn <| thn <| rg <| vl (ad rfl rfl) <| vl (mI rfl) <| nl <| thn <| ?_
   exact ⟨(i + 1, v', A'), ⟨rfl, rfl, rfl, rfl, rfl, trivial⟩, ⟨hi', ho, hK⟩, by simp only; omega⟩
  ·have hi' : i = xs.length := by simp only at hc; omega
   subst hi'
   rw [List.take_length] at hop
   have hpl := hdP_len (wd := wd)
   have hml : (hdP wd ++ xs.map num).length ≤ 101 := by rw [List.length_append, List.length_map]; omega
   refine ex <| the <| the <| bkh <| thn <| ?_
   refine rgt (fun w => K _ w _ _) [U,U,U,U,U,U,U] 7 Ty.mixed rfl rfl (hK.drawn _) ?_
   intro w hK
   refine xt (i := 0) rfl kr rfl rfl (fun w _ => mv) trivial <| xt (i := 1) rfl kr rfl rfl (fun w _ => (nc rfl)) trivial <| xt (i := 2) rfl kr rfl rfl (fun w _ => (fa underlying44 rfl Ty.z42 rfl)) trivial <| xt (i := 3) rfl kr rfl rfl (fun w _ => mv) trivial <| ?_
   refine xe (i := 4) kr rfl rfl ?_
   refine cl call33 rfl (join_c hop hK om om) ?_
   rintro _ w ⟨rfl, hK⟩
   refine xn (fun _ => True) trivial (fun _ _ => trivial) ?_
   refine xt (i := 5) rfl kr rfl rfl (fun w _ => (sad rfl rfl (by first | omega | (simp; omega)))) trivial <| ?_
   refine xe (i := 6) kr rfl rfl ?_
   refine cl call32 rfl (WriteString_c (l := prT wd xs) hb hK.dropL (by unfold prT; simp) om (by unfold prT; rw [List.length_append, List.length_singleton]; omega)) ?_
   rintro _ w ⟨⟨m, rfl⟩, bv', B', hb', hK⟩
   refine xn (fun _ => True) trivial (fun _ _ => trivial) ?_
   refine xd kr <| p0n <| ?_
   exact ⟨rfl, _, bv', B', hb', hK⟩
def tNames : List UInt8 := [106, 111, 105, 110, 32, 102, 97, 105, 108, 32, 100, 114, 111, 112, 32, 97, 100, 111, 112, 116, 32, 99, 108, 111, 115, 101, 114, 32, 110, 111, 116, 105, 102, 121, 32, 104, 97, 110, 100, 32, 116, 97, 107, 101, 32, 114, 101, 110, 101, 119, 32, 116, 105, 99, 107, 32, 112, 117, 116, 32, 101, 114, 97, 115, 101, 32, 98, 101, 103, 105, 110, 32, 115, 99, 97, 110]
theorem ct_names : ctL 32 tNames = kdN := by decide
theorem eventKind_c (hK : K e w G L) : Ret prog 53 #[Sv l] w (fun r w' => r = .int .i64 (kdL l) ∧ ∃ G', VLe G G' ∧ K e w' G' L) := by
 refine enter1 (args := [Sv l]) func53 rfl rfl rfl rfl ?_
 refine sq <| rg <| ?_
 refine vl (aI rfl) <| nl <| thn <| sq <| sq <| rg <| ?_
 refine cl call16 rfl (split_c (c := 32) (l := tNames) (by decide) hK) ?_
 rintro v w ⟨A, ho, hK⟩
 rw [ct_names] at ho
 obtain ⟨G1, hG1, hv, hK⟩ := K.pubE (c := sc) (xs := kdN) (fun _ => rfl) hK ho
 have hln : kdN.length = 14 := rfl
 refine vl (ln underlying47 rfl hv.len) <| vl (mI rfl) <| nl <| thn <| bk <| ?_
 refine lp (σ := Nat) (fun i => [(0, Sv l), (5, v), (6, .int .i64 14), (7, .int .i64 (i : Int))]) (fun i w => i ≤ 14 ∧ kdF (kdN.drop i) (1 + (i : Int)) l = kdL l ∧ K e w G1 L) (fun i => 14 - i) 0 ⟨rfl, rfl, rfl, rfl, trivial⟩ ⟨by omega, rfl, hK⟩ ?_
 clear hK
 rintro i g w ⟨hi, he, hK⟩
 refine sq <| rg <| ?_
 refine vl (lt rfl rfl) <| nl <| thn <| sq <| ?_
 refine cdP rfl (fun hc => ?_) fun hc => ?_
 ·have hi' : i < kdN.length := by omega
  have hcl := StrS.cell hv hi'
  refine sk <| thn <| sq <| bk <| sq <| rg <| ?_
  refine vl (mI rfl) <| vl (ixm1 (m := i) underlying47 Ty.s9 rfl hv.1 rfl om om) <| vl (ldV hK Ty.o9 rfl hcl) <| vl (aI rfl) <| vl asg <| nl <| thn <| sq <| rg <| vl mv <| vl mv <| vl (seqE rfl rfl) <| nl <| thn <| ?_
  refine cdP rfl (fun hx => ?_) fun hx => ?_
  ·refine sq <| rg <| ?_
   refine vl (mI rfl) <| vl (ad rfl rfl) <| vl (aI rfl) <| nl <| thn <| rt <| bkr <| thr <| thr <| bkr <| thr <| p1r (a := .int _ _) rfl <| ?_
   exact ⟨congrArg (Value.int .i64) ((kdF_yes hi' hx).symm.trans he), _, hG1, hK⟩
  ·refine sk <| bkn <| thn <| rg <| ?_
   refine vl (ad rfl rfl) <| vl (mI rfl) <| nl <| thn <| ?_
   exact ⟨i + 1, ⟨rfl, rfl, rfl, rfl, trivial⟩, ⟨by omega, by rw [← he, kdF_no hi' hx]; first | done | (congr 1; done) | (congr 1; omega), hK⟩, by omega⟩
 ·obtain rfl : i = 14 := by omega
  refine ex <| the <| the <| bkh <| thn <| sq <| rg <| ?_
  refine vl (aI rfl) <| nl <| thn <| rt <| p1r (a := .int _ _) rfl <| ?_
  exact ⟨congrArg (Value.int .i64) he, _, hG1, hK⟩
end
end Go.Proofs.YtbiihblpgfgaoabGreatDoor
