/- Contracts of the tables of tokens: the program's table. Conditions: those that each row states. -/
import Derived.Test.YtlpefeeadeocgaaPl3
import Derived.Test.YtlpefeeadeocgaaKy
namespace Go.Proofs.Ytlpefeeadeocgaa
open Go Go.Ro

section
variable {e w : World} {G : View} {L A : Own} {v u cva : Value} {code xs ys ns ws : List Int} {ts us : List (Int × Int)} {a b k n wt p key : Int} {i j o rb b1 b2 : Nat}

set_option maxHeartbeats 1000000 in
theorem implPlaceTable_c (hK : K e w G L) (hv : IntS G v ns) (hu : IntS G u ws) : Ret Try.prog 5 #[v, u] w (fun r w' => ∃ G', VLe G G' ∧ TokS G' r (PT ns ws) ∧ K e w' G' L) := by
 have hle := hv.le
 have hle2 := hu.le
 refine enter1 (args := [v, u]) Try.func5 rfl rfl rfl rfl ?_
 refine sq <| rg <| ?_
 refine vl asg <| nl <| thn <| sq <| sq <| rg <| vl mv <| ?_
 refine cl Try.call14 rfl (implNodesValid_c hK hv) ?_
 rintro _ w ⟨rfl, hK⟩
 refine vl (ntB rfl) <| vl (mB rfl) <| ?_
 have hnil : ∀ {w : World} {G1 : View} {L1 : Own}, K e w G1 (L1 ++ L) → VLe G G1 → PT ns ws = [] → ∃ G', VLe G G' ∧ TokS G' (.slice none 0 0) (PT ns ws) ∧ K e w G' L := fun hK hG he => by
  exact ⟨_, hG, by rw [he]; exact nil_row, hK.dropL⟩
 refine spl (t := 19) rfl (fun h1 => ?_) (fun h1 => ?_)
 ·have h1' := not_dec (Eq.mp (Bool.not_eq_true' _) h1)
  refine gn rfl <| gn rfl <| gn rfl <| gn rfl <| gn rfl <| vl (pk rfl) <| nl <| thn <| ?_
  refine cdt rfl ?_
  refine sq <| rg <| ?_
  refine vl asg <| nl <| thn <| rt <| thr <| p1r (a := _) rfl <| ?_
  exact hnil (L1 := []) hK (VLe.refl _) (PT.no fun h => h1' h.1)
 ·have h1' := of_dec (Eq.mp (Bool.not_eq_false' _) h1)
  have hl10 := h1'.1.2
  refine gy rfl <| vl mv <| gy rfl <| vl (ln Try.underlying23 rfl hu.len) <| gy rfl <| vl mv <| gy rfl <| vl (ln Try.underlying23 rfl hv.len) <| gy rfl <| vl (ne rfl rfl) <| vl (pk rfl) <| nl <| thn <| ?_
  refine cdP rfl (fun h2 => ?_) (fun h2 => ?_)
  ·refine sq <| rg <| ?_
   refine vl asg <| nl <| thn <| rt <| thr <| p1r (a := _) rfl <| ?_
   exact hnil (L1 := []) hK (VLe.refl _) (PT.no fun h => h2 (by have := h.2.1; omega))
  ·have hwl : ws.length = ns.length := by omega
   refine sk <| thn <| sq <| rg <| ?_
   refine mkm hK fun bm w hK => ?_
   refine vl asg <| nl <| thn <| sq <| sq <| rg <| vl mv <| vl (ln Try.underlying23 rfl hv.len) <| vl (mI rfl) <| nl <| thn <| bk <| ?_
   have hwf : ∀ x : Int, Pt x → (Lit.int .i64 x).wf = true := fun x hx => by
    have e1 : IntKind.i64.min = -9223372036854775808 := rfl
    have e2 : IntKind.i64.max = 9223372036854775807 := rfl
    simp only [Lit.wf, e1, e2, Bool.and_eq_true, decide_eq_true_eq]; omega
   refine lp (σ := Nat × View × Obj × List (Int × Int)) (fun s => [(1, u), (5, .map (some bm)), (27, v), (28, .int .i64 (ns.length : Int)), (29, .int .i64 (s.1 : Int))]) (fun s w => s.1 ≤ ns.length ∧ VLe G s.2.1 ∧ MJ s.2.2.1 s.2.2.2 ∧ (∀ p, lkI s.2.2.2 p = ownT ((ns.zip ws).take s.1) p) ∧ (∀ x ∈ s.2.2.2, Pt x.1 ∧ Pt x.2) ∧ s.2.2.2.length ≤ 5 * s.1 ∧ (∀ x ∈ ws.take s.1, 1 ≤ x ∧ x ≤ 5) ∧ K e w s.2.1 ((bm, s.2.2.1) :: L)) (fun s => ns.length - s.1) (0, G, .map #[] 0, []) ⟨rfl, rfl, rfl, rfl, rfl, trivial⟩ ⟨Nat.zero_le _, VLe.refl _, MJ.nil, fun p => rfl, by simp, Nat.le_refl _, by simp, hK⟩ ?_
   rintro ⟨i, G1, o, l⟩ g w ⟨hi, hG1, hl, hf, hpt, hll, hwk, hK⟩
   simp only at hi hG1 hl hf hpt hll hwk hK
   refine sq <| rg <| ?_
   refine vl (lt rfl rfl) <| nl <| thn <| sq <| ?_
   refine cdP rfl (fun hc => ?_) (fun hc => ?_)
   ·have hi' : i < ns.length := by simp only at hc; omega
    have hi2 : i < ws.length := by omega
    have hv1 := hv.mono hG1
    have hu1 := hu.mono hG1
    have hptn : Pt ns[i] := h1'.2.pt hi'
    refine sk <| thn <| sq <| bk <| sq <| rg <| ?_
    refine vl (mI rfl) <| vl (ixn1 Try.underlying23 Ty.s3 rfl hv1.1 rfl om) <| vl (ldV hK Ty.o3 rfl (hv1.at om)) <| vl (aI rfl) <| vl (aI rfl) <| nl <| thn <| sq <| rg <| vl (mI rfl) <| vl mv <| vl (mI rfl) <| vl (ixn1 Try.underlying23 Ty.s3 rfl hu1.1 rfl om) <| vl (ldV hK Ty.o3 rfl (hu1.at om)) <| ?_
    refine cl Try.call15 rfl (TokensOf_c hK) ?_
    rintro x w ⟨A, ho, hK⟩
    obtain ⟨G2, hG2, hx, hK⟩ := hK.pubO ho
    have hG := hG1.trans hG2
    refine vl asg <| nl <| thn <| sq <| sq <| rg <| vl mv <| vl (ln Try.underlying23 rfl hx.len) <| vl (eq rfl rfl) <| nl <| thn <| ?_
    refine cdP rfl (fun h3 => ?_) (fun h3 => ?_)
    ·have hno : ¬ (1 ≤ ws[i] ∧ ws[i] ≤ 5) := fun hw => by
      have : tkO ns[i] ws[i] = toks ns[i] ws[i] := by unfold tkO; rw [dec_t ⟨hptn, hw⟩]; rfl
      rw [this, toks_len] at h3
      omega
     refine sq <| rg <| ?_
     refine vl asg <| nl <| thn <| rt <| thr <| bkr <| thr <| thr <| bkr <| thr <| p1r (a := _) rfl <| ?_
     exact hnil (L1 := [_]) hK hG (PT.no fun h => hno (h.2.2 _ (List.getElem_mem hi2)))
    ·have hyes : 1 ≤ ws[i] ∧ ws[i] ≤ 5 := Decidable.byContradiction fun hw => h3 (by
      have : tkO ns[i] ws[i] = [] := by unfold tkO; rw [dec_f fun h => hw h.2]; rfl
      rw [this]; rfl)
     have hto : tkO ns[i] ws[i] = toks ns[i] ws[i] := by unfold tkO; rw [dec_t ⟨hptn, hyes⟩]; rfl
     have htl : (toks ns[i] ws[i]).length ≤ 5 := by rw [toks_len]; omega
     rw [hto] at hx
     rw [hto]
     generalize htk : toks ns[i] ws[i] = xs at hx htl ⊢
     refine sk <| thn <| sq <| rg <| ?_
     refine vl mv <| vl (ln Try.underlying23 rfl hx.len) <| vl (mI rfl) <| nl <| thn <| bk <| ?_
     refine lp (σ := Nat × Obj × List (Int × Int)) (fun s => [(1, u), (5, .map (some bm)), (7, .int .i64 ns[i]), (27, v), (28, .int .i64 (ns.length : Int)), (29, .int .i64 (i : Int)), (43, x), (44, .int .i64 (xs.length : Int)), (45, .int .i64 (s.1 : Int))]) (fun s w => s.1 ≤ xs.length ∧ MJ s.2.1 s.2.2 ∧ (∀ p, lkI s.2.2 p = (ownT ((ns.zip ws).take i) p).or (if p ∈ xs.take s.1 then some ns[i] else none)) ∧ (∀ y ∈ s.2.2, Pt y.1 ∧ Pt y.2) ∧ s.2.2.length ≤ 5 * i + s.1 ∧ K e w G2 ((bm, s.2.1) :: L)) (fun s => xs.length - s.1) (0, o, l) ⟨rfl, rfl, rfl, rfl, rfl, rfl, rfl, rfl, rfl, trivial⟩ ⟨Nat.zero_le _, hl, by intro p; simp only; rw [hf p]; simp, hpt, by simp only; omega, hK⟩ ?_
     rintro ⟨j, o, l⟩ g w ⟨hj, hl, hf, hpt, hll, hK⟩
     simp only at hj hl hf hpt hll hK
     refine sq <| rg <| ?_
     refine vl (lt rfl rfl) <| nl <| thn <| sq <| ?_
     refine cdP rfl (fun hc2 => ?_) (fun hc2 => ?_)
     ·have hj' : j < xs.length := by simp only at hc2; omega
      have hxp : Pt xs[j] := by
       have : xs[j] ∈ toks ns[i] ws[i] := by rw [htk]; exact List.getElem_mem hj'
       unfold toks at this
       obtain ⟨q, _, hq⟩ := List.mem_map.1 this
       have := tkn_rg ns[i] q
       rw [← hq]; exact ⟨this.1, by omega⟩
      refine sk <| thn <| sq <| bk <| sq <| rg <| ?_
      refine vl (ixn1 Try.underlying23 Ty.s3 rfl hx.1 rfl om) <| vl (ldV hK Ty.o3 rfl (hx.at om)) <| vl (aI rfl) <| nl <| thn <| sq <| rg <| vl mv <| vl (mI rfl) <| vl (lkk hK Try.underlying37 Try.underlying3 Ty.i3 rfl rfl 0 rfl hl.mi) <| vl mv <| vl (ext rfl rfl) <| vl (ext rfl rfl) <| vl (aI rfl) <| vl (aB rfl) <| nl <| thn <| ?_
      refine sq <| rg <| vl (mB rfl) <| vl (ntB rfl) <| nl <| thn <| ?_
      refine cdB rfl (fun h4 => ?_) (fun h4 => ?_)
      ·have h4' : lkI l xs[j] = none := by simpa using h4
       refine rg <| ?_
       refine vl mv <| vl (mI rfl) <| vl (mI rfl) <| ?_
       refine muN hK Try.underlying37 Try.underlying3 rfl rfl rfl 0 rfl hl h4' fun o' w hl2 hK => ?_
       refine nl <| bkn <| thn <| rg <| vl (ad rfl rfl) <| vl (mI rfl) <| nl <| thn <| ?_
       exact ⟨(j + 1, o', l ++ [(xs[j], ns[i])]), ⟨rfl, rfl, rfl, rfl, rfl, rfl, rfl, rfl, rfl, trivial⟩, ⟨hj', hl2, by simp only; exact lkI_step hj' hf h4', by
        intro y hy
        rcases List.mem_append.1 hy with hy | hy
        ·exact hpt y hy
        ·rw [List.mem_singleton.1 hy]; exact ⟨hxp, hptn⟩, by simp only [List.length_append, List.length_singleton]; omega, hK⟩, by simp only; omega⟩
      ·have h4' : (lkI l xs[j]).isSome = true := by simpa using h4
       refine sk <| bkn <| thn <| rg <| ?_
       refine vl (ad rfl rfl) <| vl (mI rfl) <| nl <| thn <| ?_
       exact ⟨(j + 1, o, l), ⟨rfl, rfl, rfl, rfl, rfl, rfl, rfl, rfl, rfl, trivial⟩, ⟨hj', hl, by simp only; exact lkI_stay hj' hf h4', hpt, by simp only; omega, hK⟩, by simp only; omega⟩
     ·have hj' : j = xs.length := by simp only at hc2; omega
      subst hj'
      refine ex <| the <| the <| bkh <| bkn <| thn <| rg <| ?_
      refine vl (ad rfl rfl) <| vl (mI rfl) <| nl <| thn <| ?_
      exact ⟨(i + 1, G2, o, l), ⟨rfl, rfl, rfl, rfl, rfl, trivial⟩, ⟨hi', hG, hl, by
       intro p
       simp only
       rw [hf p, zip_take_succ hi' hi2, ownT_snoc, List.take_length, ← htk]
       by_cases hm : p ∈ toks ns[i] ws[i]
       ·rw [if_pos hm, if_pos (toks_mem.1 hm)]
       ·rw [if_neg hm, if_neg (fun h => hm (toks_mem.2 h))], hpt, by simp only; omega, all_snoc hi2 hwk hyes, hK⟩, by simp only; omega⟩
   ·have hi' : i = ns.length := by simp only at hc; omega
    subst hi'
    have hok : WtOk ws := by rw [← hwl, List.take_length] at hwk; exact hwk
    have hzl : (ns.zip ws).length = ns.length := by rw [List.length_zip]; omega
    rw [← hzl] at hf
    simp only [List.take_length] at hf
    refine ex <| the <| the <| bkh <| thn <| sq <| rg <| ?_
    refine vl asg <| nl <| thn <| sq <| sq <| rg <| vl mv <| ?_
    refine cl Try.call17 rfl (keys_c hK) ?_
    rintro _ w ⟨bk2, rfl, hK⟩
    refine cl Try.call16 rfl (sortedKeys_c (bm := bk2) (b := bm) hK (List.mem_cons_self ..) (List.mem_cons_of_mem _ (List.mem_cons_self ..)) hl (fun x hx => ⟨hwf _ (hpt x hx).1, hwf _ (hpt x hx).2⟩) om) ?_
    rintro kv w ⟨ks, A, ho, hperm, hsrt, hK⟩
    obtain ⟨G2, hG2, hx, hK⟩ := hK.pubO ho
    have hkl : ks.length ≤ 50 := by rw [hperm.length_eq, List.length_map]; omega
    have hfin := ks_tbl hperm hsrt hl.nodup hf
    refine vl (ln Try.underlying23 rfl hx.len) <| vl (mI rfl) <| nl <| thn <| bk <| ?_
    replace hK := hK.drop1
    refine lp (σ := Nat × Value × Own) (fun s => [(5, .map (some bm)), (13, s.2.1), (64, kv), (65, .int .i64 (ks.length : Int)), (66, .int .i64 (s.1 : Int))]) (fun s w => s.1 ≤ ks.length ∧ OS 2 45 s.2.1 ((ks.take s.1).map fun p => (p, (lkI l p).getD 0)).length (((ks.take s.1).map fun p => (p, (lkI l p).getD 0)).flatMap tc) s.2.2 ∧ K e w G2 ((bm, o) :: (s.2.2 ++ L))) (fun s => ks.length - s.1) (0, .slice none 0 0, []) ⟨rfl, rfl, rfl, rfl, rfl, trivial⟩ ⟨Nat.zero_le _, OS.nil _ _, hK⟩ ?_
    rintro ⟨j, x, A2⟩ g w ⟨hj, ho, hK⟩
    simp only at hj ho hK
    refine sq <| rg <| ?_
    refine vl (lt rfl rfl) <| nl <| thn <| sq <| ?_
    refine cdP rfl (fun hc3 => ?_) (fun hc3 => ?_)
    ·have hj' : j < ks.length := by simp only at hc3; omega
     refine sk <| thn <| sq <| bk <| sq <| rg <| ?_
     refine vl (ixn1 Try.underlying23 Ty.s3 rfl hx.1 rfl om) <| vl (ldV hK Ty.o3 rfl (hx.at om)) <| vl (aI rfl) <| nl <| thn <| rg <| vl mv <| vl (mI rfl) <| vl mv <| vl (mI rfl) <| vl (lk hK Try.underlying37 Try.underlying3 Ty.i3 rfl rfl 0 rfl hl.mi) <| vl (bd [(0, _), (1, _)] Ty.p45 Ty.i45 rfl ⟨⟨rfl, rfl⟩, ⟨rfl, rfl⟩, trivial⟩ rfl) <| ?_
     refine bsS1 hK Try.underlying26 Ty.i45 rfl rfl rfl rfl rfl rfl ?_
     intro b76 w hK
     refine apE1 (c := tc) (k := (ks[j], (lkI l ks[j]).getD 0)) (fun _ => rfl) rfl (K.midc (A := [_]) hK) Try.underlying26 Ty.i45 rfl rfl rfl ho rfl (by simp; omega) fun v' A' w ho hK => ?_
     replace hK := K.mid (B := [_]) hK
     refine vl asg <| nl <| bkn <| thn <| rg <| vl (ad rfl rfl) <| vl (mI rfl) <| nl <| thn <| ?_
     have hsn : (ks.take j).map (fun p => (p, (lkI l p).getD 0)) ++ [(ks[j], (lkI l ks[j]).getD 0)] = (ks.take (j + 1)).map fun p => (p, (lkI l p).getD 0) := by rw [List.take_succ_eq_append_getElem hj', List.map_append]; rfl
     rw [hsn] at ho
     exact ⟨(j + 1, v', A'), ⟨rfl, rfl, rfl, rfl, rfl, trivial⟩, ⟨hj', ho, hK⟩, by simp only; omega⟩
    ·have hj' : j = ks.length := by simp only at hc3; omega
     subst hj'
     rw [List.take_length, hfin] at ho
     refine ex <| the <| the <| bkh <| thn <| sq <| rg <| ?_
     refine vl mv <| vl asg <| nl <| thn <| rt <| p1r (a := _) rfl <| ?_
     obtain ⟨G3, hG3, hx, hK⟩ := K.pubE (c := tc) (sz := 2) (xs := tbl (ns.zip ws)) (fun _ => rfl) hK.drop1 ho
     exact ⟨G3, (hG1.trans hG2).trans hG3, by rw [PT.ok ⟨h1', hwl, hok⟩]; exact hx, hK⟩
end
end Go.Proofs.Ytlpefeeadeocgaa
