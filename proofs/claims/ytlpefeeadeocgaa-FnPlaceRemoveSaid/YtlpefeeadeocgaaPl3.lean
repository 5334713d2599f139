/- Contracts of the tables of tokens: the specification's table. Conditions: those that each row states. -/
import Derived.Test.YtlpefeeadeocgaaPl2
namespace Go.Proofs.Ytlpefeeadeocgaa
open Go Go.Ro

section
variable {e w : World} {G : View} {L A : Own} {v u cva : Value} {code xs ys ns ws : List Int} {ts us : List (Int × Int)} {a b k n wt p key : Int} {i j o rb b1 b2 : Nat}

set_option maxHeartbeats 1000000 in
theorem specPlaceTable_c (hK : K e w G L) (hv : IntS G v ns) (hu : IntS G u ws) : Ret Try.prog 6 #[v, u] w (fun r w' => ∃ G', VLe G G' ∧ TokS G' r (PT ns ws) ∧ K e w' G' L) := by
 have hle := hv.le
 have hle2 := hu.le
 refine enter1 (args := [v, u]) Try.func6 rfl rfl rfl rfl ?_
 refine sq <| rg <| ?_
 refine vl asg <| nl <| thn <| sq <| rg <| ?_
 refine bs0 hK Try.underlying26 Ty.i45 ?_
 intro b10 w hK
 refine vl asg <| nl <| thn <| sq <| sq <| rg <| vl mv <| ?_
 refine cl Try.call18 rfl (specNodesValid_c hK hv) ?_
 rintro _ w ⟨rfl, hK⟩
 refine vl (ntB rfl) <| vl (mB rfl) <| ?_
 have hout : ∀ {w : World}, K e w G ([(b10, row [] 45)] ++ L) → PT ns ws = [] → ∃ G', VLe G G' ∧ TokS G' (.slice (some ⟨b10, 0, none⟩) 0 0) (PT ns ws) ∧ K e w G' L := fun hK he => by
  obtain ⟨G1, hG1, hx, hK⟩ := K.pubE (c := tc) (sz := 2) (xs := []) (A := [(b10, row [] 45)]) (fun _ => rfl) hK OS.none
  exact ⟨G1, hG1, by rw [he]; exact hx, hK⟩
 refine spl (t := 14) rfl (fun h1 => ?_) (fun h1 => ?_)
 ·have h1' := not_dec (Eq.mp (Bool.not_eq_true' _) h1)
  refine gn rfl <| gn rfl <| gn rfl <| gn rfl <| gn rfl <| vl (pk rfl) <| nl <| thn <| ?_
  refine cdt rfl ?_
  refine sq <| rg <| ?_
  refine vl mv <| vl asg <| nl <| thn <| rt <| thr <| p1r (a := _) rfl <| ?_
  exact hout hK (PT.no fun h => h1' h.1)
 ·have h1' := of_dec (Eq.mp (Bool.not_eq_false' _) h1)
  have hl10 := h1'.1.2
  refine gy rfl <| vl mv <| gy rfl <| vl (ln Try.underlying23 rfl hu.len) <| gy rfl <| vl mv <| gy rfl <| vl (ln Try.underlying23 rfl hv.len) <| gy rfl <| vl (ne rfl rfl) <| vl (pk rfl) <| nl <| thn <| ?_
  refine cdP rfl (fun h2 => ?_) (fun h2 => ?_)
  ·refine sq <| rg <| ?_
   refine vl mv <| vl asg <| nl <| thn <| rt <| thr <| p1r (a := _) rfl <| ?_
   exact hout hK (PT.no fun h => h2 (by have := h.2.1; omega))
  ·have hwl : ws.length = ns.length := by omega
   refine sk <| thn <| sq <| sq <| rg <| ?_
   refine vl (aI rfl) <| nl <| thn <| bk <| ?_
   refine lp (σ := Nat) (fun i => [(0, v), (1, u), (5, .slice (some ⟨b10, 0, none⟩) 0 0), (6, .int .i64 (i : Int))]) (fun i w => i ≤ ws.length ∧ (∀ x ∈ ws.take i, 1 ≤ x ∧ x ≤ 5) ∧ K e w G ([(b10, row [] 45)] ++ L)) (fun i => ws.length - i) 0 ⟨rfl, rfl, rfl, rfl, trivial⟩ ⟨Nat.zero_le _, by simp, hK⟩ ?_
   rintro i g w ⟨hi, hwk, hK⟩
   refine sq <| sq <| rg <| ?_
   refine vl (mI rfl) <| vl mv <| vl (ln Try.underlying23 rfl hu.len) <| vl (lt rfl rfl) <| nl <| thn <| ?_
   refine cdP rfl (fun hc => ?_) (fun hc => ?_)
   ·have hi' : i < ws.length := by omega
    refine sk <| thn <| sq <| bk <| sq <| rg <| ?_
    refine vl mv <| vl (mI rfl) <| vl (ixn1 Try.underlying23 Ty.s3 rfl hu.1 rfl om) <| vl (ldV hK Ty.o3 rfl (hu.at om)) <| ?_
    refine cl Try.call19 rfl (l6In_c (C := fun w => K _ w _ _) hK) ?_
    rintro _ w ⟨rfl, hK⟩
    refine vl (nt rfl) <| nl <| thn <| ?_
    refine cdP rfl (fun h3 => ?_) (fun h3 => ?_)
    ·refine sq <| rg <| ?_
     refine vl mv <| vl asg <| nl <| thn <| rt <| bkr <| thr <| thr <| bkr <| thr <| p1r (a := _) rfl <| ?_
     exact hout hK (PT.no fun h => h3 (h.2.2 _ (List.getElem_mem hi')))
    ·have h3' : 1 ≤ ws[i] ∧ ws[i] ≤ 5 := Decidable.not_not.1 h3
     refine sk <| bkn <| thn <| rg <| ?_
     refine vl (mI rfl) <| vl (ad rfl rfl) <| vl (aI rfl) <| nl <| thn <| ?_
     exact ⟨i + 1, ⟨rfl, rfl, rfl, rfl, trivial⟩, ⟨hi', all_snoc hi' hwk h3', hK⟩, by omega⟩
   ·have hi' : i = ws.length := by omega
    subst hi'
    have hok : WtOk ws := by rw [List.take_length] at hwk; exact hwk
    have hwb : ∀ j, (hj : j < ws.length) → 1 ≤ ws[j] ∧ ws[j] ≤ 5 := fun j hj => hok _ (List.getElem_mem hj)
    have hzl : (ns.zip ws).length = ns.length := by rw [List.length_zip]; omega
    refine ex <| the <| the <| bkh <| thn <| sq <| sq <| rg <| ?_
    refine vl (aI rfl) <| nl <| thn <| bk <| ?_
    refine lp (σ := Nat × Value × Own) (fun s => [(0, v), (1, u), (5, s.2.1), (7, .int .i64 (s.1 : Int))]) (fun s w => s.1 ≤ 64 ∧ OS 2 45 s.2.1 (outP (ns.zip ws) s.1 none).length ((outP (ns.zip ws) s.1 none).flatMap tc) s.2.2 ∧ K e w G (s.2.2 ++ L)) (fun s => 64 - s.1) (0, .slice (some ⟨b10, 0, none⟩) 0 0, [(b10, row [] 45)]) ⟨rfl, rfl, rfl, rfl, trivial⟩ ⟨Nat.zero_le _, OS.none, hK⟩ ?_
    rintro ⟨p, x, A⟩ g w ⟨hp, ho, hK⟩
    simp only at hp ho hK
    refine sq <| sq <| rg <| ?_
    refine vl (mI rfl) <| vl (lt rfl rfl) <| nl <| thn <| ?_
    refine cdP rfl (fun hc2 => ?_) (fun hc2 => ?_)
    ·have hp' : p < 64 := by simp only at hc2; omega
     refine sk <| thn <| sq <| bk <| sq <| rg <| ?_
     refine vl mv <| vl (ln Try.underlying23 rfl hv.len) <| vl (sb rfl rfl) <| vl (aI rfl) <| nl <| thn <| bk <| ?_
     refine lp (σ := Nat × Value × Own) (fun s => [(0, v), (1, u), (5, s.2.1), (7, .int .i64 (p : Int)), (8, .int .i64 ((s.1 : Int) - 1))]) (fun s w => s.1 ≤ ns.length ∧ OS 2 45 s.2.1 (outP (ns.zip ws) p (ownT ((ns.zip ws).drop s.1) p)).length ((outP (ns.zip ws) p (ownT ((ns.zip ws).drop s.1) p)).flatMap tc) s.2.2 ∧ K e w G (s.2.2 ++ L)) (fun s => s.1) (ns.length, x, A) ⟨rfl, rfl, rfl, rfl, rfl, trivial⟩ ⟨Nat.le_refl _, by simp only; rw [List.drop_eq_nil_of_le om]; exact ho, hK⟩ ?_
     rintro ⟨r, x2, A2⟩ g w ⟨hr, ho, hK⟩
     simp only at hr ho hK
     refine sq <| sq <| rg <| ?_
     refine vl (mI rfl) <| vl (ge rfl rfl) <| nl <| thn <| ?_
     refine cdP rfl (fun hc3 => ?_) (fun hc3 => ?_)
     ·obtain ⟨r, rfl⟩ : ∃ r', r = r' + 1 := ⟨r - 1, by simp only at hc3; omega⟩
      have hr1 : r < ns.length := by omega
      have hr2 : r < ws.length := by omega
      have hr3 : r < (ns.zip ws).length := by omega
      have hzr : (ns.zip ws)[r] = (ns[r], ws[r]) := List.getElem_zip ..
      have hptr : Pt ns[r] := h1'.2.pt hr1
      have hwr := hwb r hr2
      refine sk <| thn <| sq <| bk <| sq <| rg <| ?_
      refine vl (aI rfl) <| nl <| thn <| bk <| ?_
      refine lp (σ := Nat × Value × Own) (fun s => [(0, v), (1, u), (5, s.2.1), (7, .int .i64 (p : Int)), (8, .int .i64 (((r + 1 : Nat) : Int) - 1)), (9, .int .i64 (s.1 : Int))]) (fun s w => (s.1 : Int) ≤ ws[r] ∧ OS 2 45 s.2.1 (outP (ns.zip ws) p (curK ns[r] s.1 (ownT ((ns.zip ws).drop (r + 1)) p) p)).length ((outP (ns.zip ws) p (curK ns[r] s.1 (ownT ((ns.zip ws).drop (r + 1)) p) p)).flatMap tc) s.2.2 ∧ K e w G (s.2.2 ++ L)) (fun s => 5 - s.1) (0, x2, A2) ⟨rfl, rfl, rfl, rfl, rfl, rfl, trivial⟩ ⟨by simp only; omega, ho, hK⟩ ?_
      rintro ⟨k, x3, A3⟩ g w ⟨hk, ho, hK⟩
      simp only at hk ho hK
      refine sq <| sq <| rg <| ?_
      refine vl (mI rfl) <| vl mv <| vl (mI rfl) <| vl (ixm1 (m := r) Try.underlying23 Ty.s3 rfl hu.1 rfl om om) <| vl (ldV hK Ty.o3 rfl (hu.at om)) <| vl (lt rfl rfl) <| nl <| thn <| ?_
      refine cdP rfl (fun hc4 => ?_) (fun hc4 => ?_)
      ·have hk' : (k : Int) < ws[r] := by simp only at hc4; omega
       refine sk <| thn <| sq <| bk <| sq <| sq <| rg <| ?_
       refine vl mv <| vl (mI rfl) <| vl (ixm1 (m := r) Try.underlying23 Ty.s3 rfl hv.1 rfl om om) <| vl (ldV hK Ty.o3 rfl (hv.at om)) <| vl (mI rfl) <| ?_
       refine cl Try.call20 rfl (l31Token_c (C := fun w => K _ w _ _) hK hptr om om) ?_
       rintro _ w ⟨rfl, hK⟩
       refine vl (mI rfl) <| vl (ne rfl rfl) <| nl <| thn <| ?_
       refine cdP rfl (fun h5 => ?_) (fun h5 => ?_)
       ·refine ex <| the <| bkh <| thn <| rg <| ?_
        refine vl (mI rfl) <| vl (ad rfl rfl) <| vl (aI rfl) <| nl <| thn <| ?_
        exact ⟨(k + 1, x3, A3), ⟨rfl, rfl, rfl, rfl, rfl, rfl, trivial⟩, ⟨by simp only; omega, by simp only; rw [curK_miss _ h5]; exact ho, hK⟩, by simp only; omega⟩
       ·have h5' : tkn ns[r] k = p := Decidable.not_not.1 h5
        have hpl := outP_len (ns.zip ws) p (curK ns[r] k (ownT ((ns.zip ws).drop (r + 1)) p) p)
        have hfin := curK_hit (ownT ((ns.zip ws).drop (r + 1)) p) h5'
        generalize hcur : curK ns[r] k (ownT ((ns.zip ws).drop (r + 1)) p) p = o at ho hpl
        refine sk <| thn <| sq <| sq <| rg <| ?_
        refine vl mv <| vl (ln Try.underlying26 rfl ho.len) <| vl (gt rfl rfl) <| vl (mB rfl) <| ?_
        rcases o with _ | m
        ·skip
         refine splP (t := 65) rfl (fun h6 => ?_) (fun h6 => ?_)
         ·have hl0 : (outP (ns.zip ws) p none).length - 1 < (outP (ns.zip ws) p none).length := by omega
          have hlt := lastN (ns.zip ws) p hl0
          have hcell := tcell (outP (ns.zip ws) p none) hl0
          refine gy rfl <| vl mv <| gy rfl <| vl mv <| gy rfl <| vl (ln Try.underlying26 rfl ho.len) <| gy rfl <| vl (sb rfl rfl) <| gy rfl <| vl (ixm (m := (outP (ns.zip ws) p none).length - 1) Try.underlying26 Ty.s45 rfl ho.slw rfl om om) <| gy rfl <| vl (fe Try.underlying45 rfl Ty.z3 rfl ho.slw om) <| gy rfl <| vl (ldC Ty.o3 rfl (ho.cell hK hcell)) <| gy rfl <| vl (mI rfl) <| gy rfl <| vl (eq rfl rfl) <| vl (pk rfl) <| nl <| thn <| ?_
          refine cdP rfl (fun h7 => ?_) (fun h7 => ?_)
          ·have _ := trivial
           omega
          ·refine sk <| thn <| rg <| ?_
           refine vl mv <| vl (mI rfl) <| vl mv <| vl (mI rfl) <| vl (ixm1 (m := r) Try.underlying23 Ty.s3 rfl hv.1 rfl om om) <| vl (ldV hK Ty.o3 rfl (hv.at om)) <| vl (bd [(0, _), (1, _)] Ty.p45 Ty.i45 rfl ⟨⟨rfl, rfl⟩, ⟨rfl, rfl⟩, trivial⟩ rfl) <| ?_
           refine bsS1 hK Try.underlying26 Ty.i45 rfl rfl rfl rfl rfl rfl ?_
           intro b88 w hK
           refine apE1 (c := tc) (k := ((p : Int), ns[r])) (fun _ => rfl) rfl hK Try.underlying26 Ty.i45 rfl rfl rfl ho rfl om fun v' A' w ho hK => ?_
           rw [outP_app] at ho
           refine vl asg <| nl <| bkn <| thn <| rg <| vl (mI rfl) <| vl (ad rfl rfl) <| vl (aI rfl) <| nl <| thn <| ?_
           exact ⟨(k + 1, v', A'), ⟨rfl, rfl, rfl, rfl, rfl, rfl, trivial⟩, ⟨by simp only; omega, by simp only; rw [hfin]; exact ho, hK⟩, by simp only; omega⟩
         ·refine gn rfl <| gn rfl <| gn rfl <| gn rfl <| gn rfl <| gn rfl <| gn rfl <| gn rfl <| gn rfl <| vl (pk rfl) <| nl <| thn <| ?_
          refine cdf rfl ?_
          refine sk <| thn <| rg <| ?_
          refine vl mv <| vl (mI rfl) <| vl mv <| vl (mI rfl) <| vl (ixm1 (m := r) Try.underlying23 Ty.s3 rfl hv.1 rfl om om) <| vl (ldV hK Ty.o3 rfl (hv.at om)) <| vl (bd [(0, _), (1, _)] Ty.p45 Ty.i45 rfl ⟨⟨rfl, rfl⟩, ⟨rfl, rfl⟩, trivial⟩ rfl) <| ?_
          refine bsS1 hK Try.underlying26 Ty.i45 rfl rfl rfl rfl rfl rfl ?_
          intro b88 w hK
          refine apE1 (c := tc) (k := ((p : Int), ns[r])) (fun _ => rfl) rfl hK Try.underlying26 Ty.i45 rfl rfl rfl ho rfl om fun v' A' w ho hK => ?_
          rw [outP_app] at ho
          refine vl asg <| nl <| bkn <| thn <| rg <| vl (mI rfl) <| vl (ad rfl rfl) <| vl (aI rfl) <| nl <| thn <| ?_
          exact ⟨(k + 1, v', A'), ⟨rfl, rfl, rfl, rfl, rfl, rfl, trivial⟩, ⟨by simp only; omega, by simp only; rw [hfin]; exact ho, hK⟩, by simp only; omega⟩
        ·skip
         have hl0 : (outP (ns.zip ws) p (some m)).length - 1 < (outP (ns.zip ws) p (some m)).length := by have := congrArg List.length (outP_app (ns.zip ws) p m); rw [List.length_append, List.length_singleton] at this; omega
         have hcell := tcell (outP (ns.zip ws) p (some m)) hl0
         rw [lastS] at hcell
         refine splP (t := 65) rfl (fun h6 => ?_) (fun h6 => ?_)
         ·skip
          refine gy rfl <| vl mv <| gy rfl <| vl mv <| gy rfl <| vl (ln Try.underlying26 rfl ho.len) <| gy rfl <| vl (sb rfl rfl) <| gy rfl <| vl (ixm (m := (outP (ns.zip ws) p (some m)).length - 1) Try.underlying26 Ty.s45 rfl ho.slw rfl om om) <| gy rfl <| vl (fe Try.underlying45 rfl Ty.z3 rfl ho.slw om) <| gy rfl <| vl (ldC Ty.o3 rfl (ho.cell hK hcell)) <| gy rfl <| vl (mI rfl) <| gy rfl <| vl (eq rfl rfl) <| vl (pk rfl) <| nl <| thn <| ?_
          refine cdP rfl (fun h7 => ?_) (fun h7 => ?_)
          ·refine rg <| ?_
           refine vl mv <| vl mv <| vl (ln Try.underlying26 rfl ho.len) <| vl (sb rfl rfl) <| vl (slHi (h := (outP (ns.zip ws) p (some m)).length - 1) Try.underlying26 Ty.s45 rfl ho.slw (congrArg (Value.int .i64) om) om) <| vl asg <| nl <| thn <| rg <| vl mv <| vl (mI rfl) <| vl mv <| vl (mI rfl) <| vl (ixm1 (m := r) Try.underlying23 Ty.s3 rfl hv.1 rfl om om) <| vl (ldV hK Ty.o3 rfl (hv.at om)) <| vl (bd [(0, _), (1, _)] Ty.p45 Ty.i45 rfl ⟨⟨rfl, rfl⟩, ⟨rfl, rfl⟩, trivial⟩ rfl) <| ?_
           refine bsS1 hK Try.underlying26 Ty.i45 rfl rfl rfl rfl rfl rfl ?_
           intro b88 w hK
           have ho := osBase ho
           have hpl := outP_len (ns.zip ws) p none
           refine apE1 (c := tc) (k := ((p : Int), ns[r])) (fun _ => rfl) rfl hK Try.underlying26 Ty.i45 rfl rfl rfl ho rfl om fun v' A' w ho hK => ?_
           rw [outP_app] at ho
           refine vl asg <| nl <| bkn <| thn <| rg <| vl (mI rfl) <| vl (ad rfl rfl) <| vl (aI rfl) <| nl <| thn <| ?_
           exact ⟨(k + 1, v', A'), ⟨rfl, rfl, rfl, rfl, rfl, rfl, trivial⟩, ⟨by simp only; omega, by simp only; rw [hfin]; exact ho, hK⟩, by simp only; omega⟩
          ·have _ := trivial
           exact absurd rfl h7
         ·have _ := trivial
          omega
      ·have hi' : (k : Int) = ws[r] := by simp only at hc4; omega
       have hall := curK_all (nw := ns.zip ws) (r := r) (p := (p : Int)) hr3
       rw [hzr] at hall
       simp only at hall
       rw [← hi', Int.toNat_natCast] at hall
       rw [hall] at ho
       refine ex <| the <| the <| bkh <| bkn <| thn <| rg <| ?_
       refine vl (mI rfl) <| vl (sb rfl rfl) <| vl (aI rfl) <| nl <| thn <| ?_
       exact ⟨(r, x3, A3), ⟨rfl, rfl, rfl, rfl, congrArg (Value.int .i64) (by omega), trivial⟩, ⟨by simp only; omega, ho, hK⟩, by simp only; omega⟩
     ·have hr0 : r = 0 := by simp only at hc3; omega
      subst hr0
      rw [List.drop_zero, outP_succ] at ho
      refine ex <| the <| the <| bkh <| bkn <| thn <| rg <| ?_
      refine vl (mI rfl) <| vl (ad rfl rfl) <| vl (aI rfl) <| nl <| thn <| ?_
      exact ⟨(p + 1, x2, A2), ⟨rfl, rfl, rfl, rfl, trivial⟩, ⟨hp', ho, hK⟩, by simp only; omega⟩
    ·have hp' : p = 64 := by simp only at hc2; omega
     subst hp'
     rw [outP_all] at ho
     refine ex <| the <| the <| bkh <| thn <| sq <| rg <| ?_
     refine vl mv <| vl asg <| nl <| thn <| rt <| p1r (a := _) rfl <| ?_
     obtain ⟨G1, hG1, hx, hK⟩ := K.pubE (c := tc) (sz := 2) (xs := tbl (ns.zip ws)) (fun _ => rfl) hK ho
     exact ⟨G1, hG1, by rw [PT.ok ⟨h1', hwl, hok⟩]; exact hx, hK⟩
end
end Go.Proofs.Ytlpefeeadeocgaa
